/- The law PlaneMeets answers true at every input and leaves its arguments as they were; no condition. Part 5 of 6. -/
import Derived.Test.YtegdcnjjelgpjaaCPlaneMeets1
import Derived.Test.YtegdcnjjelgpjaaCPlaneMeets0
import Derived.Test.YtegdcnjjelgpjaaCPlaneMeets2
import Derived.Test.YtegdcnjjelgpjaaCPlaneMeets3
import Derived.ChangeArms
import Derived.ChangeSame
import Derived.Deep.Slices
import Derived.WideShapes
import Derived.KernelRfl
set_option linter.unusedVariables false
set_option linter.unusedSimpArgs false
namespace Go.Proofs.Ytegdcnjjelgpjaa.P
open Go.RowKit Go.Shelf Go.Proofs.Ytegdcnjjelgpjaa.O Go.Proofs.YtegdcnjjelgpjaaW.PrintWords Go.Proofs.YtegdcnjjelgpjaaW.PrintLast Go.Proofs.YtegdcnjjelgpjaaW.PrintMore
attribute [local go_sem] Oper.semAt_some
set_option linter.unusedVariables false
set_option linter.unusedSimpArgs false
def four (t : Int) (p : S23) : List S23 := [⟨wrap64 (p.f0 + wrap64 (-t)), wrap64 (p.f1 + wrap64 (-t))⟩, ⟨wrap64 (p.f0 + wrap64 (-t)), wrap64 (p.f1 + t)⟩, ⟨wrap64 (p.f0 + t), wrap64 (p.f1 + wrap64 (-t))⟩, ⟨wrap64 (p.f0 + t), wrap64 (p.f1 + t)⟩]
def growL (l : List S23) (t : Int) : List S23 := l.flatMap (four t)
theorem growL_len (l : List S23) (t : Int) : (growL l t).length = 4 * l.length := by
 unfold growL
 induction l with
 | nil => rfl
 | cons x r ih => rw [List.flatMap_cons, List.length_append, ih]; simp [four]; omega
theorem growL_succ (l : List S23) (t : Int) (k : Nat) (h : k < l.length) : growL (l.take (k + 1)) t = growL (l.take k) t ++ four t l[k] := by
 unfold growL
 rw [List.take_succ_eq_append_getElem h, List.flatMap_append, List.flatMap_singleton]
def plane_grown.f (l0 : List (S23)) (a1 : Int) : Option ((List (S23))) := plane_corners.f (growL l0 a1)
theorem OutV.reads {w : World} {base : Nat} {v : Value} {l : List S23} (h : OutV w base v l) : ∃ A c, v = .slice A l.length c ∧ l.length ≤ c ∧ Kd.C k23 w A l.length l := Kd.R_reads (h.toR (ok := fun _ => True) (fun _ _ => trivial))
set_option maxRecDepth 100000 in
set_option maxHeartbeats 4000000 in
theorem plane_grown.calls (A0 : Option Addr) (c0 : Nat) (l0 : List (S23)) (a1 : Int) (r : List (S23)) (w : World) (hr0 : Kd.C k23 w A0 l0.length l0) (hc0 : l0.length ≤ c0) (h : plane_grown.f l0 a1 = some r) :
  Calls Try.prog 100 #[.slice A0 l0.length c0, .int .i64 a1] w fun e w' => ∃ v0_ : Value, e = .returned (v0_) ∧ Kd.R k23 23 w' w.heap.size (fun _ => True) v0_ r ∧ Below w.heap.size w w' := by
 have hu23 := Try.underlying23
 have hu126 := Try.underlying126
 have hm := Kd.C_max hr0
 have hlen : l0.length ≤ 262144 := by
  unfold plane_grown.f plane_corners.f at h
  split at h
  ·rename_i g; have := g.2.1; rw [growL_len] at this; omega
  ·cases h
 have HC := Aside0.mk h
 have HR := Aside0.mk hr0
 obtain ⟨n, hn⟩ : ∃ n, l0.length = n := ⟨_, rfl⟩
 have HN := Aside0.mk hn
 rw [hn] at hlen ⊢
 obtain ⟨nt, hnt⟩ : ∃ d, wrap64 (-a1) = d := ⟨_, rfl⟩
 have HNT := Aside0.mk hnt
 have w1 : IntKind.i64.wrap (-a1) = nt := by rw [i64_w]; exact hnt
 clear h hr0 hn hnt hm hc0
 refine (callsIn_wide (n := 0)).1 (callsIn_of_wp Try.func100 rfl trivial ?_ rfl)
 simp only [Try.ntmps100, List.size_toArray, List.length_cons, List.length_nil, Nat.reduceAdd, Nat.reduceSub, Array.replicate_succ, Array.replicate_zero, List.push_toArray, List.append_toArray, List.nil_append, List.cons_append]
 gi_wp2
 gi_loopw [5, 12] (fun v5 v12 wr => ∃ (k : Nat) (v : Value), k ≤ n ∧ v12 = .int .i64 k ∧ v = v5 ∧ Aside0 (OutV wr w.heap.size v (growL (l0.take k) a1)) ∧ Aside0 (Below w.heap.size w wr)) (fun _ v12 _ => n - (intOf v12).toNat)
 case atStart => exact ⟨0, _, Nat.zero_le _, rfl, rfl, ⟨.inl ⟨rfl, rfl⟩⟩, ⟨Below.refl _ _⟩⟩
 case round =>
  obtain ⟨k, v5, hk, rfl, rfl, HO, HB⟩ := hrel
  by_cases hlt : k < n
  ·have hkl : k < l0.length := by rw [HN.out]; exact hlt
   obtain ⟨ad, rfl, hx0, hx1⟩ := at_T23 HR.out (k : Int) (by omega) (by omega)
   rw [rd23_get l0 k hkl, Int.toNat_natCast] at hx0 hx1
   replace hx0 := (HB.out.cell (World.block_lt_of_cell? w _ hx0)).trans hx0
   replace hx1 := (HB.out.cell (World.block_lt_of_cell? w _ hx1)).trans hx1
   have hsuc := growL_succ l0 a1 k hkl
   have hgl : (growL (l0.take k) a1).length ≤ 1048576 := by rw [growL_len, List.length_take]; omega
   obtain ⟨p, hp⟩ : ∃ p, l0[k] = p := ⟨_, rfl⟩
   rw [hp] at hx0 hx1 hsuc
   have HS := Aside0.mk hsuc
   obtain ⟨G, hG⟩ : ∃ G, growL (l0.take k) a1 = G := ⟨_, rfl⟩
   rw [hG] at HO HS hgl
   have HGL := Aside0.mk hgl
   obtain ⟨wq, hwq⟩ : ∃ wq, wr.alloc (.cells #[.int .i64 p.f0, .int .i64 p.f1] 23 (0, 0)) = wq := ⟨_, rfl⟩
   have hbq : Below wr.heap.size wr wq := by rw [← hwq]; exact (Below.refl _ _).alloc (Nat.le_refl _) _
   have kp : wq.heap[wr.heap.size]? = some (.cells #[.int .i64 p.f0, .int .i64 p.f1] 23 (0, 0)) := by rw [← hwq]; exact blk_new _ _
   have HO2 := Aside0.mk (HO.out.below hbq)
   have hne : ∀ q, v5.ownBlock = some q → q ≠ wr.heap.size := fun q hq => by have := (HO.out.lt q hq).1; omega
   have HNE := Aside0.mk hne
   have HB2 := Aside0.mk (HB.out.trans (hbq.mono HB.out.size))
   have KP := Aside0.mk kp
   clear hp hsuc hG hgl hne kp hbq
   gi_wp2
   gi_loopw [5, 33] (fun u5 v33 wz => ∃ (j : Nat) (v : Value), j ≤ 4 ∧ v33 = .int .i64 j ∧ v = u5 ∧ Aside0 (OutV wz w.heap.size v (G ++ (four a1 p).take j)) ∧ Aside0 (∀ q, v.ownBlock = some q → q ≠ wr.heap.size) ∧ Aside0 (wz.heap[wr.heap.size]? = some (.cells #[.int .i64 p.f0, .int .i64 p.f1] 23 (0, 0))) ∧ Aside0 (Below w.heap.size w wz)) (fun _ v33 _ => 4 - (intOf v33).toNat)
   case atStart => exact ⟨0, _, by omega, rfl, rfl, ⟨by simpa using HO2.out⟩, HNE, KP, HB2⟩
   case round =>
    clear hx0 hx1 hwq
    rename World => wz
    obtain ⟨j, v, hj, rfl, rfl, HO3, HNE3, KP3, HB3⟩ := hrel
    by_cases hj4 : j < 4
    ·obtain ⟨ex, ey, hcase⟩ : ∃ ex ey : Int, (j = 0 ∧ ex = nt ∧ ey = nt) ∨ (j = 1 ∧ ex = nt ∧ ey = a1) ∨ (j = 2 ∧ ex = a1 ∧ ey = nt) ∨ (j = 3 ∧ ex = a1 ∧ ey = a1) := by
      rcases (show j = 0 ∨ j = 1 ∨ j = 2 ∨ j = 3 by omega) with e | e | e | e
      ·exact ⟨nt, nt, .inl ⟨e, rfl, rfl⟩⟩
      ·exact ⟨nt, a1, .inr (.inl ⟨e, rfl, rfl⟩)⟩
      ·exact ⟨a1, nt, .inr (.inr (.inl ⟨e, rfl, rfl⟩))⟩
      ·exact ⟨a1, a1, .inr (.inr (.inr ⟨e, rfl, rfl⟩))⟩
     have hidx : ∀ w, (Instr.index 127 (.agg #[.int .i64 nt, .int .i64 nt, .int .i64 nt, .int .i64 a1, .int .i64 a1, .int .i64 nt, .int .i64 a1, .int .i64 a1]) (.int .i64 (j : Int))).run Try.prog w = .ok (.agg #[.int .i64 ex, .int .i64 ey]) w := by
      rcases hcase with ⟨rfl, rfl, rfl⟩ | ⟨rfl, rfl, rfl⟩ | ⟨rfl, rfl, rfl⟩ | ⟨rfl, rfl, rfl⟩ <;> intro w <;> rfl
     obtain ⟨X, hX⟩ : ∃ d, wrap64 (p.f0 + ex) = d := ⟨_, rfl⟩
     obtain ⟨Y, hY⟩ : ∃ d, wrap64 (p.f1 + ey) = d := ⟨_, rfl⟩
     have hfour : (four a1 p).take (j + 1) = (four a1 p).take j ++ [⟨X, Y⟩] := by
      unfold four
      rw [HNT.out, ← hX, ← hY]
      rcases hcase with ⟨rfl, rfl, rfl⟩ | ⟨rfl, rfl, rfl⟩ | ⟨rfl, rfl, rfl⟩ | ⟨rfl, rfl, rfl⟩ <;> rfl
     have w5 : IntKind.i64.wrap (p.f0 + ex) = X := by rw [i64_w]; exact hX
     have w6 : IntKind.i64.wrap (p.f1 + ey) = Y := by rw [i64_w]; exact hY
     obtain ⟨wa, hwa⟩ : ∃ wa, wz.alloc (.cells #[.int .i64 ex, .int .i64 ey] 126 (0, 0)) = wa := ⟨_, rfl⟩
     have hba : Below wz.heap.size wz wa := by rw [← hwa]; exact (Below.refl _ _).alloc (Nat.le_refl _) _
     have kd : wa.heap[wz.heap.size]? = some (.cells #[.int .i64 ex, .int .i64 ey] 126 (0, 0)) := by rw [← hwa]; exact blk_new _ _
     have kpa := keep_below hba (blk_lt KP3.out) KP3.out
     have d0 : wa.cell? ⟨wz.heap.size, 0, none⟩ = some (.int .i64 ex) := (blk_cell kd 0).trans rfl
     have d1 : wa.cell? ⟨wz.heap.size, 1, none⟩ = some (.int .i64 ey) := (blk_cell kd 1).trans rfl
     have p0 : wa.cell? ⟨wr.heap.size, 0, none⟩ = some (.int .i64 p.f0) := (blk_cell kpa 0).trans rfl
     have p1 : wa.cell? ⟨wr.heap.size, 1, none⟩ = some (.int .i64 p.f1) := (blk_cell kpa 1).trans rfl
     have hbb : Below wz.heap.size wz (wa.alloc (.cells #[.int .i64 X, .int .i64 Y] 23 (0, 0))) := hba.trans ((Below.refl _ _).alloc hba.size _)
     have HO4 := Aside0.mk (HO3.out.below hbb)
     have HB4 := Aside0.mk (HB3.out.trans (hbb.mono HB3.out.size))
     have KP4 := Aside0.mk (keep_below hbb (blk_lt KP3.out) KP3.out)
     have KX := Aside0.mk (blk_new wa (.cells #[.int .i64 X, .int .i64 Y] 23 (0, 0)))
     have HLT : Aside0 (wr.heap.size < wa.heap.size) := ⟨blk_lt kpa⟩
     have HF := Aside0.mk hfour
     have HG4 : Aside0 ((G ++ (four a1 p).take j).length + 1 ≤ 8796093022208) := ⟨by rw [List.length_append, List.length_take]; have := HGL.out; omega⟩
     have HVL := Aside0.mk (fun q hq => (HO3.out.lt q hq).1)
     clear hcase hfour hba kd kpa hbb
     gi_wp2_with (gi_at_builtin; refine wpListIn_append_pt _ rfl _ _ rfl w.heap.size _ (G ++ (four a1 p).take j) rfl HO4.out wa.heap.size 1 ⟨X, Y⟩ rfl ((blk_cell KX.out 0).trans rfl) ((blk_cell KX.out 1).trans rfl) HG4.out HB4.out.size ?_)
     intro v' W2 ho3 hg3 hat3
     have ho3' : OutV W2 w.heap.size v' (G ++ (four a1 p).take (j + 1)) := by rw [HF.out, ← List.append_assoc]; simpa using ho3
     have hnr : ∀ q, v.ownBlock = some q → q ≠ wr.heap.size := HNE3.out
     have HO5 := Aside0.mk ho3'
     have HNE5 : Aside0 (∀ q, v'.ownBlock = some q → q ≠ wr.heap.size) := ⟨fun q hq => by
      rcases hat3 with e | e
      ·rw [e] at hq; exact hnr q hq
      ·rw [e] at hq; simp at hq; have := HLT.out; omega⟩
     have KP5 : Aside0 (W2.heap[wr.heap.size]? = some (.cells #[.int .i64 p.f0, .int .i64 p.f1] 23 (0, 0))) := ⟨blk_grown KP4.out hg3 fun e => hnr _ e.symm rfl⟩
     have HB5 : Aside0 (Below w.heap.size w W2) := ⟨HB4.out.grown hg3 HB4.out.size fun q hq => (HO4.out.lt q hq).2⟩
     have HJ1 : Aside0 (j + 1 ≤ 4 ∧ 4 - (j + 1) < 4 - j ∧ wrap64 ((j : Int) + 1) = ((j + 1 : Nat) : Int)) := ⟨by omega, by omega, by unfold wrap64; omega⟩
     clear hX hY w5 w6 ho3 ho3' hg3 hat3 hnr hidx d0 d1 p0 p1 hwa
     gi_wp2
     obtain ⟨i1, i2, i3⟩ := HJ1.out
     refine ⟨⟨j + 1, v', i1, by first | rw [i3] | rfl, rfl, HO5, HNE5, KP5, HB5⟩, ?_⟩
     try rw [i3]
     show 4 - (((j + 1 : Nat) : Int)).toNat < 4 - ((j : Nat) : Int).toNat
     rw [Int.toNat_natCast, Int.toNat_natCast]; exact i2
    ·obtain rfl : j = 4 := by omega
     have hG2 : OutV wz w.heap.size v (growL (l0.take (k + 1)) a1) := by rw [HS.out]; exact HO3.out
     have HG2 := Aside0.mk hG2
     have HK1 : Aside0 (k + 1 ≤ n ∧ n - (k + 1) < n - k ∧ wrap64 ((k : Int) + 1) = ((k + 1 : Nat) : Int)) := ⟨by omega, by omega, by unfold wrap64; omega⟩
     clear hG2
     gi_wp2
     obtain ⟨i1, i2, i3⟩ := HK1.out
     refine ⟨⟨k + 1, v, i1, by first | rw [i3] | rfl, rfl, HG2, HB3⟩, ?_⟩
     try rw [i3]
     show n - (((k + 1 : Nat) : Int)).toNat < n - ((k : Nat) : Int).toNat
     rw [Int.toNat_natCast, Int.toNat_natCast]; exact i2
  ·obtain rfl : k = n := by omega
   have ho := HO.out
   rw [List.take_of_length_le (by rw [HN.out]; exact Nat.le_refl _)] at ho
   obtain ⟨A, c, rfl, hle, hC⟩ := ho.reads
   have HCC := Aside0.mk (callsIn_w (n := 0) (plane_corners.calls A c (growL l0 a1) r wr hC hle HC.out))
   obtain ⟨m, hm⟩ : ∃ m, (growL l0 a1).length = m := ⟨_, rfl⟩
   rw [hm] at HCC ⊢
   clear ho hC hm hle
   gi_wp2
   refine ⟨trivial, rfl, HCC.out.mono ?_⟩
   rintro e W2 ⟨v, rfl, hR, hb2⟩
   have HR2 := Aside0.mk hR
   have HB2 := Aside0.mk hb2
   clear hR hb2
   gi_wp2
   go_ret
   exact ⟨v, rfl, Kd.R_lower HR2.out HB.out.size, HB.out.trans (HB2.out.mono HB.out.size)⟩
end Go.Proofs.Ytegdcnjjelgpjaa.P
namespace Go.Proofs.Ytegdcnjjelgpjaa.P
open Go.RowKit Go.Proofs.YtegdcnjjelgpjaaW.PrintWords Go.Proofs.YtegdcnjjelgpjaaW.PrintLast Go.Proofs.YtegdcnjjelgpjaaW.PrintMore
attribute [local go_sem] max2_int min2_int max_two min_two max_three min_three max_four min_four   -- for this text's walks alone
set_option linter.unusedVariables false
set_option linter.unusedSimpArgs false
def plane_Gap.l0 : Nat → List (S23) → List (S23) → Int → Int → Option (Int × Int)
 | 0, _, _, _, _ => none
 | k + 1, x0, x1, x7, x8 => if x7 < x8 then ((plane_grown.f x0 (wrap64 (Int.tdiv (wrap64 (x7 + x8)) 2))).bind fun t105 => ((plane_apart.f t105 x1).bind fun t108 => (if t108 = true then (plane_Gap.l0 k x0 x1 (wrap64 ((wrap64 (Int.tdiv (wrap64 (x7 + x8)) 2)) + 1)) x8) else (plane_Gap.l0 k x0 x1 x7 (wrap64 (Int.tdiv (wrap64 (x7 + x8)) 2)))))) else (some (x7, 0))
def plane_Gap.f (k : Nat) (l0 : List (S23)) (l1 : List (S23)) : Option (Int × Int) := (plane_checkHulls.f (([l0, l1] : List (List (S23))))).bind fun t104 => (if t104 = 0 then (plane_Gap.l0 k l0 l1 0 33554432) else (some (0, t104)))
theorem plane_Gap.mono_l : ∀ k, (∀ y0 y1 y2 y3, LeO (plane_Gap.l0 k y0 y1 y2 y3) (plane_Gap.l0 (k + 1) y0 y1 y2 y3))
 | 0 => fun _ _ _ _ r h => by simp [plane_Gap.l0] at h
 | k + 1 => by
  have ih0 := plane_Gap.mono_l k
  ·intro y0 y1 y2 y3
   unfold plane_Gap.l0
   repeat' first
   | (with_reducible exact ih0 _ _ _ _)
   | (with_reducible exact LeO.refl _)
   | (with_reducible exact LeO.none _)
   | (with_reducible refine LeO.ite ?_ ?_)
   | (with_reducible refine LeO.bind ?_ (fun _ => ?_))
   | exact ih0 _ _ _ _
   | exact LeO.none _
   | refine LeO.ite ?_ ?_
   | refine LeO.bind ?_ (fun _ => ?_)
theorem plane_Gap.mono : ∀ a0 a1 k, LeO (plane_Gap.f k a0 a1) (plane_Gap.f (k + 1) a0 a1) := by
 intro a0 a1 k
 have ih0 := plane_Gap.mono_l k
 unfold plane_Gap.f
 repeat' first
   | (with_reducible exact ih0 _ _ _ _)
   | (with_reducible exact LeO.refl _)
   | (with_reducible exact LeO.none _)
   | (with_reducible refine LeO.ite ?_ ?_)
   | (with_reducible refine LeO.bind ?_ (fun _ => ?_))
   | exact ih0 _ _ _ _
   | exact LeO.none _
   | refine LeO.ite ?_ ?_
   | refine LeO.bind ?_ (fun _ => ?_)
set_option maxHeartbeats 8000000 in
set_option maxRecDepth 100000 in
theorem plane_Gap.calls (k : Nat) (P0_ : Nat → Prop) (A0 : Option Addr) (c0 : Nat) (l0 : List (S23)) (P1_ : Nat → Prop) (A1 : Option Addr) (c1 : Nat) (l1 : List (S23)) (r1 : Int) (r2 : Int) (w : World) (hs0 : Kd.V k23 23 w w.heap.size (fun k_ => P0_ k_) (.slice A0 l0.length c0) l0) (hs1 : Kd.V k23 23 w w.heap.size (fun k_ => P1_ k_) (.slice A1 l1.length c1) l1) (h : plane_Gap.f k l0 l1 = some (r1, r2)) :
  Calls Try.prog 60 #[.slice A0 l0.length c0, .slice A1 l1.length c1] w fun e w' => e = .returned (.tuple #[.int .i64 r1, .int .i64 r2]) ∧ Below w.heap.size w w' := by
 have HO0 := Aside0.mk (show Kd.V k23 23 w w.heap.size (fun k_ => ((P0_ k_ ∨ P1_ k_) ∨ w.heap.size ≤ k_)) (.slice A0 l0.length c0) l0 from Kd.V_mono hs0 (fun k_ hk => .inl (.inl hk)))
 have HO1 := Aside0.mk (show Kd.V k23 23 w w.heap.size (fun k_ => ((P0_ k_ ∨ P1_ k_) ∨ w.heap.size ≤ k_)) (.slice A1 l1.length c1) l1 from Kd.V_mono hs1 (fun k_ hk => .inl (.inr hk)))
 have HB := Aside0.mk (Below.refl w.heap.size w)
 have H : ((plane_checkHulls.f (([l0, l1] : List (List (S23))))).bind fun t104 => (if t104 = 0 then (plane_Gap.l0 k l0 l1 0 33554432) else (some (0, t104)))) = some (r1, r2) := h
 clear h
 obtain ⟨y101, hy101⟩ : ∃ y_ : List (List (S23)), y_ = (([l0, l1] : List (List (S23)))) := ⟨_, rfl⟩
 replace H : ((plane_checkHulls.f y101).bind fun t104 => (if t104 = 0 then (plane_Gap.l0 k l0 l1 0 33554432) else (some (0, t104)))) = some (r1, r2) := by first | (rw [hy101]; with_reducible exact H) | (have H2_ := (Option.bind_some _ _).symm.trans H; rw [hy101]; with_reducible exact H2_) | (have H2_ := (Option.bind_some _ _).symm.trans H; with_reducible exact H2_) | with_reducible exact H | (rw [hy101]; exact H) | exact H
 have Ny101 := Aside0.mk hy101
 clear hy101
 replace H := Option.bind_eq_some_iff.mp H
 obtain ⟨t104, A30, H⟩ := H
 replace H : (if t104 = 0 then (plane_Gap.l0 k l0 l1 0 33554432) else (some (0, t104))) = some (r1, r2) := H
 have A3 := Aside0.mk A30
 clear A30
 by_cases c4 : t104 = 0
 ·rw [if_pos c4] at H
  have c4b0 : (t104 == 0) = true := beq_iff_eq.mpr c4
  have c4b1 : (t104 != 0) = false := bne_eq_false_iff_eq.mpr c4
  clear c4
  have H' := Aside0.mk H
  clear H
  go_enter Try.func60, Try.ntmps60
  go_wp2_with (first | ((with_reducible refine gate_dst (N := 12) rfl ?_); refine Kd.N_lit (Kd.slice 23 k23) _ 53 ?hg (N' := 12) ?hd (xs := ([l0, l1] : List (List (S23)))) (inner := [.slice A0 l0.length c0, .slice A1 l1.length c1]) (ok := (fun k_ => ((P0_ k_ ∨ P1_ k_) ∨ w.heap.size ≤ k_))) (okp := (fun k_ => ((P0_ k_ ∨ P1_ k_) ∨ w.heap.size ≤ k_))) ?hr ?hp (fun _ hk => hk) ((show ∀ k_, w.heap.size ≤ k_ → (fun k_ => ((P0_ k_ ∨ P1_ k_) ∨ w.heap.size ≤ k_)) k_ from fun k_ hk => (.inr (Nat.le_trans (below_size (bB0 HB)) hk))) _ (Nat.le_refl _)) (Below.refl _ _) (Nat.le_refl _) (by simp) ?_; (case hd => rfl); (case hg => rfl); (case hr => first | (go_simp; done) | (go_simp; rfl)); (case hp => exact (Reps.one (show Kd.FK (Kd.slice 23 k23) _ _ l0 [.slice A0 l0.length c0] from (Kd.FK_slice_mk (Kd.V_reads' (Kd.V_mono (ok' := (fun k_ => ((P0_ k_ ∨ P1_ k_) ∨ w.heap.size ≤ k_))) (HO0.out) (fun k_ hk => hk))).2.1 (Kd.V_F (Kd.V_mono (ok' := (fun k_ => ((P0_ k_ ∨ P1_ k_) ∨ w.heap.size ≤ k_))) (HO0.out) (fun k_ hk => hk))))) (Reps.one (show Kd.FK (Kd.slice 23 k23) _ _ l1 [.slice A1 l1.length c1] from (Kd.FK_slice_mk (Kd.V_reads' (Kd.V_mono (ok' := (fun k_ => ((P0_ k_ ∨ P1_ k_) ∨ w.heap.size ≤ k_))) (HO1.out) (fun k_ hk => hk))).2.1 (Kd.V_F (Kd.V_mono (ok' := (fun k_ => ((P0_ k_ ∨ P1_ k_) ∨ w.heap.size ≤ k_))) (HO1.out) (fun k_ hk => hk))))) (Reps.none _ _)))); intro v102 w5 ho6 hb hg_ hnew_; clear hg_ hnew_; (first | rw [← Ny101.out] at ho6 | (simp only [Int.reduceToNat] at ho6; rw [← Ny101.out] at ho6)); replace HO0 := Aside0.mk (Kd.V_elder' (vB HO0) (Kd.N_base ho6) hb); replace HO1 := Aside0.mk (Kd.V_elder' (vB HO1) (Kd.N_base ho6) hb); have HO103 := Aside0.mk (Kd.N_lower ho6 (below_size (bB0 HB))); replace HB := Aside0.mk (below_step (bB0 HB) hb); clear hb ho6; obtain ⟨Ao7, co7, eo7⟩ := Kd.N_slice HO103.out; subst eo7) | ((with_reducible refine gate_callee (f := 94) rfl ?_); refine goesL_ (some 13) rfl rfl Try.func94 (by kernel_rfl) rfl #[.slice Ao7 y101.length co7] rfl mB ?_; (with_reducible refine (plane_checkHulls.calls _ _ y101 t104 _ ?side1 ?side2 A3.out).mono ?_); (case side1 => repeat (first | exact (Kd.N_reads' HO103.out).2.2 | (with_reducible refine Kd.C_alloc ?_ _) | (with_reducible refine Kd.C_drewN ?_ _) | (with_reducible refine Kd.C_drew ?_))); (case side2 => exact (Kd.N_reads' HO103.out).2.1); rintro e w8 ⟨rfl, hb⟩; refine ⟨_, rfl, ?_⟩; replace HO0 := Aside0.mk (Kd.V_below (vB HO0) hb); replace HO1 := Aside0.mk (Kd.V_below (vB HO1) hb); replace HO103 := Aside0.mk (Kd.N_below (by (with_reducible repeat (first | apply Kd.N_alloc | apply Kd.N_drewN | apply Kd.N_drew)); exact HO103.out) hb); replace HB := Aside0.mk (below_step (bB0 HB) hb); (try clear hb); (try clear hb2); (try clear hk); (try clear hi)))
  go_loopg [7, 8] k (fun kq v7 v8 w' => ∃ (x7_1 : Int) (x8_1 : Int), v7 = .int .i64 x7_1 ∧ v8 = .int .i64 x8_1 ∧ Aside0 (plane_Gap.l0 kq l0 l1 x7_1 x8_1 = some (r1, r2)) ∧ Aside0 (kq ≤ k) ∧ Aside0 (Kd.V k23 23 w' w.heap.size (fun k_ => ((P0_ k_ ∨ P1_ k_) ∨ w.heap.size ≤ k_)) (.slice A0 l0.length c0) l0) ∧ Aside0 (Kd.V k23 23 w' w.heap.size (fun k_ => ((P0_ k_ ∨ P1_ k_) ∨ w.heap.size ≤ k_)) (.slice A1 l1.length c1) l1) ∧ Aside0 (Below w.heap.size w w'))
  case atStart => exact ⟨(0), (33554432), sB, sB, H', ⟨Nat.le_refl _⟩, ⟨by (with_reducible repeat (first | apply Kd.V_alloc | apply Kd.V_drewN | apply Kd.V_drew)); exact Kd.V_mono HO0.out (fun _ hk => hk.1)⟩, ⟨by (with_reducible repeat (first | apply Kd.V_alloc | apply Kd.V_drewN | apply Kd.V_drew)); exact Kd.V_mono HO1.out (fun _ hk => hk.1)⟩, ⟨bB0 HB⟩⟩
  case round =>
   clear H'
   try clear c1
   try clear p2
   try clear c4
   try clear c4b0
   try clear c4b1
   try clear c6
   obtain ⟨x7_1, x8_1, rfl, rfl, HA, HK1, HO_0, HO_1, HB⟩ := hrel
   cases gk with
   | zero => exact absurd HA.out (by simp [plane_Gap.l0])
   | succ k1 =>
    have H := HA.out
    clear HA
    simp only [plane_Gap.l0] at H
    by_cases c9 : x7_1 < x8_1
    ·rw [if_pos c9] at H
     have c9b0 : decide (x7_1 < x8_1) = true := decide_eq_true c9
     clear c9
     replace H := Option.bind_eq_some_iff.mp H
     obtain ⟨t105, A100, H⟩ := H
     replace H : ((plane_apart.f t105 l1).bind fun t108 => (if t108 = true then (plane_Gap.l0 k1 l0 l1 (wrap64 ((wrap64 (Int.tdiv (wrap64 (x7_1 + x8_1)) 2)) + 1)) x8_1) else (plane_Gap.l0 k1 l0 l1 x7_1 (wrap64 (Int.tdiv (wrap64 (x7_1 + x8_1)) 2))))) = some (r1, r2) := H
     have A10 := Aside0.mk A100
     clear A100
     replace H := Option.bind_eq_some_iff.mp H
     obtain ⟨t108, A110, H⟩ := H
     replace H : (if t108 = true then (plane_Gap.l0 k1 l0 l1 (wrap64 ((wrap64 (Int.tdiv (wrap64 (x7_1 + x8_1)) 2)) + 1)) x8_1) else (plane_Gap.l0 k1 l0 l1 x7_1 (wrap64 (Int.tdiv (wrap64 (x7_1 + x8_1)) 2)))) = some (r1, r2) := H
     have A11 := Aside0.mk A110
     clear A110
     by_cases c12 : t108 = true
     ·subst c12
      have H1 : (plane_Gap.l0 k1 l0 l1 (wrap64 ((wrap64 (Int.tdiv (wrap64 (x7_1 + x8_1)) 2)) + 1)) x8_1) = some (r1, r2) := by rw [if_pos rfl] at H; exact H
      clear H
      have H := H1
      clear H1
      have H' := Aside0.mk H
      clear H
      go_wp2_with (first | ((with_reducible refine gate_callee (f := 100) rfl ?_); refine goesL_ (some 26) rfl rfl Try.func100 (by kernel_rfl) rfl #[.slice A0 l0.length c0, .int .i64 (wrap64 (Int.tdiv (wrap64 (x7_1 + x8_1)) 2))] rfl mB ?_; (with_reducible refine (plane_grown.calls _ _ l0 (wrap64 (Int.tdiv (wrap64 (x7_1 + x8_1)) 2)) t105 _ ?side1 ?side2 A10.out).mono ?_); (case side1 => repeat (first | exact (Kd.V_reads' HO_0.out).2.2 | (with_reducible refine Kd.C_alloc ?_ _) | (with_reducible refine Kd.C_drewN ?_ _) | (with_reducible refine Kd.C_drew ?_))); (case side2 => exact (Kd.V_reads' HO_0.out).2.1); rintro e w13 ⟨v106, rfl, ho0, hb⟩; refine ⟨_, rfl, ?_⟩; replace HO_0 := Aside0.mk (Kd.V_elder' (vB HO_0) (Kd.R_base ho0) hb); replace HO_1 := Aside0.mk (Kd.V_elder' (vB HO_1) (Kd.R_base ho0) hb); have HO107 := Aside0.mk (Kd.R_lower (Kd.R_newM (M := fun k_ => (w.heap.size ≤ k_)) ho0 (below_size (bB0 HB)) (fun k_ h_ => h_)) (below_size (bB0 HB))); replace HB := Aside0.mk (below_step (bB0 HB) hb); (try clear hb); (try clear hb2); (try clear hk); (try clear hi); (try clear ho0); obtain ⟨Ao14, co14, eo14⟩ := Kd.R_slice HO107.out; subst eo14) | ((with_reducible refine gate_callee (f := 95) rfl ?_); refine goesL_ (some 28) rfl rfl Try.func95 (by kernel_rfl) rfl #[.slice Ao14 t105.length co14, .slice A1 l1.length c1] rfl mB ?_; (with_reducible refine (plane_apart.calls _ _ t105 _ _ l1 true _ ?side1 ?side2 ?side3 ?side4 A11.out).mono ?_); (case side1 => exact cB2 HO107); (case side2 => exact (Kd.R_reads' HO107.out).2.1); (case side3 => repeat (first | exact (Kd.V_reads' HO_1.out).2.2 | (with_reducible refine Kd.C_alloc ?_ _) | (with_reducible refine Kd.C_drewN ?_ _) | (with_reducible refine Kd.C_drew ?_))); (case side4 => exact (Kd.V_reads' HO_1.out).2.1); rintro e w15 ⟨rfl, hb⟩; refine ⟨_, rfl, ?_⟩; replace HO_0 := Aside0.mk (Kd.V_below (vB HO_0) hb); replace HO_1 := Aside0.mk (Kd.V_below (vB HO_1) hb); replace HO107 := Aside0.mk (Kd.R_below (rB HO107) hb); replace HB := Aside0.mk (below_step (bB0 HB) hb); (try clear hb); (try clear hb2); (try clear hk); (try clear hi)))
      go_roundg k1
      case measure => have := HK1.out; omega
      case rel => exact ⟨(wrap64 ((wrap64 (Int.tdiv (wrap64 (x7_1 + x8_1)) 2)) + 1)), (x8_1), sB, sB, H', ⟨by have := HK1.out; omega⟩, ⟨by (with_reducible repeat (first | apply Kd.V_alloc | apply Kd.V_drewN | apply Kd.V_drew)); exact Kd.V_mono HO_0.out (fun _ hk => hk.1)⟩, ⟨by (with_reducible repeat (first | apply Kd.V_alloc | apply Kd.V_drewN | apply Kd.V_drew)); exact Kd.V_mono HO_1.out (fun _ hk => hk.1)⟩, ⟨bB0 HB⟩⟩
     ·replace c12 := Bool.eq_false_iff.mpr c12
      subst c12
      have H1 : (plane_Gap.l0 k1 l0 l1 x7_1 (wrap64 (Int.tdiv (wrap64 (x7_1 + x8_1)) 2))) = some (r1, r2) := by rw [if_neg (show ¬ (false = true) by decide)] at H; exact H
      clear H
      have H := H1
      clear H1
      have H' := Aside0.mk H
      clear H
      go_wp2_with (first | ((with_reducible refine gate_callee (f := 100) rfl ?_); refine goesL_ (some 26) rfl rfl Try.func100 (by kernel_rfl) rfl #[.slice A0 l0.length c0, .int .i64 (wrap64 (Int.tdiv (wrap64 (x7_1 + x8_1)) 2))] rfl mB ?_; (with_reducible refine (plane_grown.calls _ _ l0 (wrap64 (Int.tdiv (wrap64 (x7_1 + x8_1)) 2)) t105 _ ?side1 ?side2 A10.out).mono ?_); (case side1 => repeat (first | exact (Kd.V_reads' HO_0.out).2.2 | (with_reducible refine Kd.C_alloc ?_ _) | (with_reducible refine Kd.C_drewN ?_ _) | (with_reducible refine Kd.C_drew ?_))); (case side2 => exact (Kd.V_reads' HO_0.out).2.1); rintro e w16 ⟨v106, rfl, ho0, hb⟩; refine ⟨_, rfl, ?_⟩; replace HO_0 := Aside0.mk (Kd.V_elder' (vB HO_0) (Kd.R_base ho0) hb); replace HO_1 := Aside0.mk (Kd.V_elder' (vB HO_1) (Kd.R_base ho0) hb); have HO107 := Aside0.mk (Kd.R_lower (Kd.R_newM (M := fun k_ => (w.heap.size ≤ k_)) ho0 (below_size (bB0 HB)) (fun k_ h_ => h_)) (below_size (bB0 HB))); replace HB := Aside0.mk (below_step (bB0 HB) hb); (try clear hb); (try clear hb2); (try clear hk); (try clear hi); (try clear ho0); obtain ⟨Ao17, co17, eo17⟩ := Kd.R_slice HO107.out; subst eo17) | ((with_reducible refine gate_callee (f := 95) rfl ?_); refine goesL_ (some 28) rfl rfl Try.func95 (by kernel_rfl) rfl #[.slice Ao17 t105.length co17, .slice A1 l1.length c1] rfl mB ?_; (with_reducible refine (plane_apart.calls _ _ t105 _ _ l1 false _ ?side1 ?side2 ?side3 ?side4 A11.out).mono ?_); (case side1 => exact cB2 HO107); (case side2 => exact (Kd.R_reads' HO107.out).2.1); (case side3 => repeat (first | exact (Kd.V_reads' HO_1.out).2.2 | (with_reducible refine Kd.C_alloc ?_ _) | (with_reducible refine Kd.C_drewN ?_ _) | (with_reducible refine Kd.C_drew ?_))); (case side4 => exact (Kd.V_reads' HO_1.out).2.1); rintro e w18 ⟨rfl, hb⟩; refine ⟨_, rfl, ?_⟩; replace HO_0 := Aside0.mk (Kd.V_below (vB HO_0) hb); replace HO_1 := Aside0.mk (Kd.V_below (vB HO_1) hb); replace HO107 := Aside0.mk (Kd.R_below (rB HO107) hb); replace HB := Aside0.mk (below_step (bB0 HB) hb); (try clear hb); (try clear hb2); (try clear hk); (try clear hi)))
      go_roundg k1
      case measure => have := HK1.out; omega
      case rel => exact ⟨(x7_1), (wrap64 (Int.tdiv (wrap64 (x7_1 + x8_1)) 2)), sB, sB, H', ⟨by have := HK1.out; omega⟩, ⟨by (with_reducible repeat (first | apply Kd.V_alloc | apply Kd.V_drewN | apply Kd.V_drew)); exact Kd.V_mono HO_0.out (fun _ hk => hk.1)⟩, ⟨by (with_reducible repeat (first | apply Kd.V_alloc | apply Kd.V_drewN | apply Kd.V_drew)); exact Kd.V_mono HO_1.out (fun _ hk => hk.1)⟩, ⟨bB0 HB⟩⟩
    ·rw [if_neg c9] at H
     have c9b0 : decide (x7_1 < x8_1) = false := decide_eq_false c9
     clear c9
     simp only [Option.some.injEq, Prod.mk.injEq] at H
     obtain ⟨rfl, rfl⟩ := H
     go_wp2
     go_ret2
     exact ⟨eB, bB0 HB⟩
 ·rw [if_neg c4] at H
  have c4b0 : (t104 == 0) = false := beq_eq_false_iff_ne.mpr c4
  have c4b1 : (t104 != 0) = true := bne_iff_ne.mpr c4
  simp only [Option.some.injEq, Prod.mk.injEq] at H
  obtain ⟨rfl, rfl⟩ := H
  go_enter Try.func60, Try.ntmps60
  go_wp2_with (first | ((with_reducible refine gate_dst (N := 12) rfl ?_); refine Kd.N_lit (Kd.slice 23 k23) _ 53 ?hg (N' := 12) ?hd (xs := ([l0, l1] : List (List (S23)))) (inner := [.slice A0 l0.length c0, .slice A1 l1.length c1]) (ok := (fun k_ => ((P0_ k_ ∨ P1_ k_) ∨ w.heap.size ≤ k_))) (okp := (fun k_ => ((P0_ k_ ∨ P1_ k_) ∨ w.heap.size ≤ k_))) ?hr ?hp (fun _ hk => hk) ((show ∀ k_, w.heap.size ≤ k_ → (fun k_ => ((P0_ k_ ∨ P1_ k_) ∨ w.heap.size ≤ k_)) k_ from fun k_ hk => (.inr (Nat.le_trans (below_size (bB0 HB)) hk))) _ (Nat.le_refl _)) (Below.refl _ _) (Nat.le_refl _) (by simp) ?_; (case hd => rfl); (case hg => rfl); (case hr => first | (go_simp; done) | (go_simp; rfl)); (case hp => exact (Reps.one (show Kd.FK (Kd.slice 23 k23) _ _ l0 [.slice A0 l0.length c0] from (Kd.FK_slice_mk (Kd.V_reads' (Kd.V_mono (ok' := (fun k_ => ((P0_ k_ ∨ P1_ k_) ∨ w.heap.size ≤ k_))) (HO0.out) (fun k_ hk => hk))).2.1 (Kd.V_F (Kd.V_mono (ok' := (fun k_ => ((P0_ k_ ∨ P1_ k_) ∨ w.heap.size ≤ k_))) (HO0.out) (fun k_ hk => hk))))) (Reps.one (show Kd.FK (Kd.slice 23 k23) _ _ l1 [.slice A1 l1.length c1] from (Kd.FK_slice_mk (Kd.V_reads' (Kd.V_mono (ok' := (fun k_ => ((P0_ k_ ∨ P1_ k_) ∨ w.heap.size ≤ k_))) (HO1.out) (fun k_ hk => hk))).2.1 (Kd.V_F (Kd.V_mono (ok' := (fun k_ => ((P0_ k_ ∨ P1_ k_) ∨ w.heap.size ≤ k_))) (HO1.out) (fun k_ hk => hk))))) (Reps.none _ _)))); intro v102 w19 ho20 hb hg_ hnew_; clear hg_ hnew_; (first | rw [← Ny101.out] at ho20 | (simp only [Int.reduceToNat] at ho20; rw [← Ny101.out] at ho20)); replace HO0 := Aside0.mk (Kd.V_elder' (vB HO0) (Kd.N_base ho20) hb); replace HO1 := Aside0.mk (Kd.V_elder' (vB HO1) (Kd.N_base ho20) hb); have HO103 := Aside0.mk (Kd.N_lower ho20 (below_size (bB0 HB))); replace HB := Aside0.mk (below_step (bB0 HB) hb); clear hb ho20; obtain ⟨Ao21, co21, eo21⟩ := Kd.N_slice HO103.out; subst eo21) | ((with_reducible refine gate_callee (f := 94) rfl ?_); refine goesL_ (some 13) rfl rfl Try.func94 (by kernel_rfl) rfl #[.slice Ao21 y101.length co21] rfl mB ?_; (with_reducible refine (plane_checkHulls.calls _ _ y101 t104 _ ?side1 ?side2 A3.out).mono ?_); (case side1 => repeat (first | exact (Kd.N_reads' HO103.out).2.2 | (with_reducible refine Kd.C_alloc ?_ _) | (with_reducible refine Kd.C_drewN ?_ _) | (with_reducible refine Kd.C_drew ?_))); (case side2 => exact (Kd.N_reads' HO103.out).2.1); rintro e w22 ⟨rfl, hb⟩; refine ⟨_, rfl, ?_⟩; replace HO0 := Aside0.mk (Kd.V_below (vB HO0) hb); replace HO1 := Aside0.mk (Kd.V_below (vB HO1) hb); replace HO103 := Aside0.mk (Kd.N_below (by (with_reducible repeat (first | apply Kd.N_alloc | apply Kd.N_drewN | apply Kd.N_drew)); exact HO103.out) hb); replace HB := Aside0.mk (below_step (bB0 HB) hb); (try clear hb); (try clear hb2); (try clear hk); (try clear hi)))
  go_ret2
  exact ⟨eB, bB0 HB⟩
def gooseneckref01_Grown.l0 : Nat → List (S23) → Int → List (S23) → Int → Option ((List (S23)))
 | 0, _, _, _, _ => none
 | k + 1, x0, x1, x5, x6 => if x6 < (x0.length : Int) then (if 0 ≤ x6 then ((some (([(⟨wrap64 (((rd_T23 x0 x6).f0) - x1), wrap64 (((rd_T23 x0 x6).f1) - x1)⟩ : S23), (⟨wrap64 (((rd_T23 x0 x6).f0) + x1), wrap64 (((rd_T23 x0 x6).f1) - x1)⟩ : S23), (⟨wrap64 (((rd_T23 x0 x6).f0) - x1), wrap64 (((rd_T23 x0 x6).f1) + x1)⟩ : S23), (⟨wrap64 (((rd_T23 x0 x6).f0) + x1), wrap64 (((rd_T23 x0 x6).f1) + x1)⟩ : S23)] : List (S23)) : List (S23))).bind fun y103 => (if x5.length + y103.length < 8796093022208 then (gooseneckref01_Grown.l0 k x0 x1 (x5 ++ y103) (wrap64 (x6 + 1))) else (none))) else (none)) else ((gooseneckref01_Corners.f k x5).bind fun t109 => (some t109))
def gooseneckref01_Grown.f (k : Nat) (l0 : List (S23)) (a1 : Int) : Option ((List (S23))) := gooseneckref01_Grown.l0 k l0 a1 ([] : List (S23)) 0
theorem gooseneckref01_Grown.mono_l : ∀ k, (∀ y0 y1 y2 y3, LeO (gooseneckref01_Grown.l0 k y0 y1 y2 y3) (gooseneckref01_Grown.l0 (k + 1) y0 y1 y2 y3))
 | 0 => fun _ _ _ _ r h => by simp [gooseneckref01_Grown.l0] at h
 | k + 1 => by
  have ih0 := gooseneckref01_Grown.mono_l k
  ·intro y0 y1 y2 y3
   unfold gooseneckref01_Grown.l0
   repeat' first
   | (with_reducible exact ih0 _ _ _ _)
   | (with_reducible exact gooseneckref01_Corners.mono _ _)
   | (with_reducible exact LeO.refl _)
   | (with_reducible exact LeO.none _)
   | (with_reducible refine LeO.ite ?_ ?_)
   | (with_reducible refine LeO.bind ?_ (fun _ => ?_))
   | exact ih0 _ _ _ _
   | exact gooseneckref01_Corners.mono _ _
   | exact LeO.none _
   | refine LeO.ite ?_ ?_
   | refine LeO.bind ?_ (fun _ => ?_)
theorem gooseneckref01_Grown.mono : ∀ a0 a1 k, LeO (gooseneckref01_Grown.f k a0 a1) (gooseneckref01_Grown.f (k + 1) a0 a1) := by
 intro a0 a1 k
 have ih0 := gooseneckref01_Grown.mono_l k
 unfold gooseneckref01_Grown.f
 repeat' first
   | (with_reducible exact ih0 _ _ _ _)
   | (with_reducible exact gooseneckref01_Corners.mono _ _)
   | (with_reducible exact LeO.refl _)
   | (with_reducible exact LeO.none _)
   | (with_reducible refine LeO.ite ?_ ?_)
   | (with_reducible refine LeO.bind ?_ (fun _ => ?_))
   | exact ih0 _ _ _ _
   | exact gooseneckref01_Corners.mono _ _
   | exact LeO.none _
   | refine LeO.ite ?_ ?_
   | refine LeO.bind ?_ (fun _ => ?_)
set_option maxHeartbeats 8000000 in
set_option maxRecDepth 100000 in
theorem gooseneckref01_Grown.calls (k : Nat) (A0 : Option Addr) (c0 : Nat) (l0 : List (S23)) (a1 : Int) (r : List (S23)) (w : World) (hr0 : Kd.C k23 w A0 l0.length l0) (hc0 : l0.length ≤ c0) (h : gooseneckref01_Grown.f k l0 a1 = some r) :
  Calls Try.prog 101 #[.slice A0 l0.length c0, .int .i64 a1] w fun e w' => ∃ v0_ : Value, e = .returned (v0_) ∧ Kd.R k23 23 w' w.heap.size (fun _ => True) v0_ r ∧ Below w.heap.size w w' := by
 have hu23 := Try.underlying23
 have HR0 := Aside0.mk hr0
 have HC0 := Aside0.mk hc0
 clear hr0 hc0
 have HB := Aside0.mk (Below.refl w.heap.size w)
 have H : (gooseneckref01_Grown.l0 k l0 a1 ([] : List (S23)) 0) = some r := h
 clear h
 have H' := Aside0.mk H
 clear H
 go_enter Try.func101, Try.ntmps101
 go_wp2
 go_loopg [5, 6] k (fun kq v5 v6 w' => ∃ (x5_1 : List (S23)) (x6_1 : Int), v6 = .int .i64 x6_1 ∧ Aside0 (gooseneckref01_Grown.l0 kq l0 a1 x5_1 x6_1 = some r) ∧ Aside0 (kq ≤ k) ∧ Aside0 (Kd.R k23 23 w' w.heap.size (fun _ => True) v5 x5_1) ∧ Aside0 (Below w.heap.size w w'))
 case atStart => exact ⟨(([] : List (S23))), (0), sB, H', ⟨Nat.le_refl _⟩, ⟨by first | exact Kd.R_nil _ _ _ _ _ | exact Kd.N_nil _ _ _ _ _ | exact Kd.V_nil _ _ _ _ _ | exact Kd.Q_nil _ _ _ _ _ | exact Kd.S_nil _ _ _ _ _⟩, ⟨bB0 HB⟩⟩
 case round =>
  clear H'
  try clear c1
  try clear p2
  obtain ⟨x5_1, x6_1, rfl, HA, HK1, HO_5, HB⟩ := hrel
  cases gk with
  | zero => exact absurd HA.out (by simp [gooseneckref01_Grown.l0])
  | succ k1 =>
   have H := HA.out
   clear HA
   simp only [gooseneckref01_Grown.l0] at H
   by_cases c3 : x6_1 < (l0.length : Int)
   ·rw [if_pos c3] at H
    have c3b0 : decide (x6_1 < (l0.length : Int)) = true := decide_eq_true c3
    clear c3
    by_cases c4 : 0 ≤ x6_1
    ·rw [if_pos c4] at H
     have c4b0 : decide (0 ≤ x6_1) = true := decide_eq_true c4
     clear c4
     obtain ⟨y103, hy103⟩ : ∃ y_ : List (S23), y_ = (([(⟨wrap64 (((rd_T23 l0 x6_1).f0) - a1), wrap64 (((rd_T23 l0 x6_1).f1) - a1)⟩ : S23), (⟨wrap64 (((rd_T23 l0 x6_1).f0) + a1), wrap64 (((rd_T23 l0 x6_1).f1) - a1)⟩ : S23), (⟨wrap64 (((rd_T23 l0 x6_1).f0) - a1), wrap64 (((rd_T23 l0 x6_1).f1) + a1)⟩ : S23), (⟨wrap64 (((rd_T23 l0 x6_1).f0) + a1), wrap64 (((rd_T23 l0 x6_1).f1) + a1)⟩ : S23)] : List (S23))) := ⟨_, rfl⟩
     replace H : (if x5_1.length + y103.length < 8796093022208 then (gooseneckref01_Grown.l0 k1 l0 a1 (x5_1 ++ y103) (wrap64 (x6_1 + 1))) else (none)) = some r := by first | (rw [hy103]; with_reducible exact H) | (have H2_ := (Option.bind_some _ _).symm.trans H; rw [hy103]; with_reducible exact H2_) | (have H2_ := (Option.bind_some _ _).symm.trans H; with_reducible exact H2_) | with_reducible exact H | (rw [hy103]; exact H) | exact H
     have Ny103 := Aside0.mk hy103
     clear hy103
     by_cases c5 : x5_1.length + y103.length < 8796093022208
     ·rw [if_pos c5] at H
      have LMc5 := Aside0.mk c5
      clear c5
      obtain ⟨y106, hy106⟩ : ∃ y_ : List (S23), y_ = (x5_1 ++ y103) := ⟨_, rfl⟩
      replace H : (gooseneckref01_Grown.l0 k1 l0 a1 y106 (wrap64 (x6_1 + 1))) = some r := by first | (rw [hy106]; with_reducible exact H) | (have H2_ := (Option.bind_some _ _).symm.trans H; rw [hy106]; with_reducible exact H2_) | (have H2_ := (Option.bind_some _ _).symm.trans H; with_reducible exact H2_) | with_reducible exact H | (rw [hy106]; exact H) | exact H
      have Ny106 := Aside0.mk hy106
      clear hy106
      have H' := Aside0.mk H
      clear H
      have p101 : 0 ≤ (x6_1 : Int) := oB
      have q101 : x6_1 < (l0.length : Int) := oB
      obtain ⟨ad101, e101, hx101_0, hx101_1⟩ := at_T23 HR0.out x6_1 p101 q101
      cases e101
      replace hx101_0 := (HB.out.cell (World.block_lt_of_cell? w _ hx101_0)).trans hx101_0
      replace hx101_1 := (HB.out.cell (World.block_lt_of_cell? w _ hx101_1)).trans hx101_1
      replace p101 := eq_true p101
      replace q101 := eq_true q101
      go_wp2_with (first | ((with_reducible refine gate_dst (N := 7) rfl ?_); refine boxE (N := 7) (cs := #[.int .i64 0, .int .i64 0]) (t := 23) ?_; intro gb102 hg w6 hbox hb; replace HO_5 := Aside0.mk (Kd.R_below (Kd.R_elderB (rB HO_5) gb102 (Nat.le_of_eq hg.symm)) hb); have n1_ := Aside0.mk (below_step (bB0 HB) hb); have BK102 := Aside0.mk (hbox); have GW102 := Aside0.mk (szB hg (below_size (bB0 HB))); have GE102 := GW102; clear HB; have HB := n1_; clear n1_; clear hb hbox hg; have hcz7_0 : w6.cell? ⟨gb102, 0, none⟩ = some (.int .i64 0) := (blk_cell BK102.out 0).trans rfl; have hcz7_1 : w6.cell? ⟨gb102, 1, none⟩ = some (.int .i64 0) := (blk_cell BK102.out 1).trans rfl; have hfz7_0 := blk_frozen BK102.out 0; have hfz7_1 := blk_frozen BK102.out 1) | ((with_reducible refine gate_dst (N := 55) rfl ?_); refine Kd.R_lit k23 _ 23 ?hg (N := 55) ?hd (xs := ([(⟨wrap64 (((rd_T23 l0 x6_1).f0) - a1), wrap64 (((rd_T23 l0 x6_1).f1) - a1)⟩ : S23), (⟨wrap64 (((rd_T23 l0 x6_1).f0) + a1), wrap64 (((rd_T23 l0 x6_1).f1) - a1)⟩ : S23), (⟨wrap64 (((rd_T23 l0 x6_1).f0) - a1), wrap64 (((rd_T23 l0 x6_1).f1) + a1)⟩ : S23), (⟨wrap64 (((rd_T23 l0 x6_1).f0) + a1), wrap64 (((rd_T23 l0 x6_1).f1) + a1)⟩ : S23)] : List (S23))) (inner := [.int .i64 (wrap64 (((rd_T23 l0 x6_1).f0) - a1)), .int .i64 (wrap64 (((rd_T23 l0 x6_1).f1) - a1)), .int .i64 (wrap64 (((rd_T23 l0 x6_1).f0) + a1)), .int .i64 (wrap64 (((rd_T23 l0 x6_1).f1) - a1)), .int .i64 (wrap64 (((rd_T23 l0 x6_1).f0) - a1)), .int .i64 (wrap64 (((rd_T23 l0 x6_1).f1) + a1)), .int .i64 (wrap64 (((rd_T23 l0 x6_1).f0) + a1)), .int .i64 (wrap64 (((rd_T23 l0 x6_1).f1) + a1))]) (ok := fun _ => True) (okp := fun _ => True) ?hr ?hp (fun _ hk => hk) trivial (Below.refl _ _) (Nat.le_refl _) (by simp) ?_; (case hd => rfl); (case hg => rfl); (case hr => first | (go_simp; done) | (go_simp; rfl)); (case hp => exact (Reps.c2 (show Kd.M k23 _ _ _ (⟨wrap64 (((rd_T23 l0 x6_1).f0) - a1), wrap64 (((rd_T23 l0 x6_1).f1) - a1)⟩ : S23) [.int .i64 (wrap64 (((rd_T23 l0 x6_1).f0) - a1)), .int .i64 (wrap64 (((rd_T23 l0 x6_1).f1) - a1))] from (k23_mkM _ _ _ (⟨wrap64 (((rd_T23 l0 x6_1).f0) - a1), wrap64 (((rd_T23 l0 x6_1).f1) - a1)⟩ : S23) )) (Reps.c2 (show Kd.M k23 _ _ _ (⟨wrap64 (((rd_T23 l0 x6_1).f0) + a1), wrap64 (((rd_T23 l0 x6_1).f1) - a1)⟩ : S23) [.int .i64 (wrap64 (((rd_T23 l0 x6_1).f0) + a1)), .int .i64 (wrap64 (((rd_T23 l0 x6_1).f1) - a1))] from (k23_mkM _ _ _ (⟨wrap64 (((rd_T23 l0 x6_1).f0) + a1), wrap64 (((rd_T23 l0 x6_1).f1) - a1)⟩ : S23) )) (Reps.c2 (show Kd.M k23 _ _ _ (⟨wrap64 (((rd_T23 l0 x6_1).f0) - a1), wrap64 (((rd_T23 l0 x6_1).f1) + a1)⟩ : S23) [.int .i64 (wrap64 (((rd_T23 l0 x6_1).f0) - a1)), .int .i64 (wrap64 (((rd_T23 l0 x6_1).f1) + a1))] from (k23_mkM _ _ _ (⟨wrap64 (((rd_T23 l0 x6_1).f0) - a1), wrap64 (((rd_T23 l0 x6_1).f1) + a1)⟩ : S23) )) (Reps.c2 (show Kd.M k23 _ _ _ (⟨wrap64 (((rd_T23 l0 x6_1).f0) + a1), wrap64 (((rd_T23 l0 x6_1).f1) + a1)⟩ : S23) [.int .i64 (wrap64 (((rd_T23 l0 x6_1).f0) + a1)), .int .i64 (wrap64 (((rd_T23 l0 x6_1).f1) + a1))] from (k23_mkM _ _ _ (⟨wrap64 (((rd_T23 l0 x6_1).f0) + a1), wrap64 (((rd_T23 l0 x6_1).f1) + a1)⟩ : S23) )) (Reps.none _ _)))))); intro v104 w8 ho9 hb hg_ hnew_; clear hg_ hnew_; (first | rw [← Ny103.out] at ho9 | (simp only [Int.reduceToNat] at ho9; rw [← Ny103.out] at ho9)); have n0_ := Aside0.mk (Kd.R_elder' (by (with_reducible repeat (first | apply Kd.R_alloc | apply Kd.R_drewN | apply Kd.R_drew)); exact (Kd.R_mono (Kd.R_far (p := ⟨gb102, 1, none⟩) (Kd.R_far (p := ⟨gb102, 0, none⟩) (Kd.R_mono HO_5.out (fun k_ hk => (⟨hk, hk.2⟩ : _ ∧ k_ ≠ gb102))) (fun _ hk => hk.2) (.int .i64 ((rd_T23 l0 x6_1).f0))) (fun _ hk => hk.2) (.int .i64 ((rd_T23 l0 x6_1).f1))) (fun _ h_ => h_.1))) (Kd.R_base ho9) hb); have HO105 := Aside0.mk (Kd.R_lower (Kd.R_newB (Kd.R_new' ho9 (Kd.R_lt (by (with_reducible repeat (first | apply Kd.R_alloc | apply Kd.R_drewN | apply Kd.R_drew)); exact (Kd.R_mono (Kd.R_far (p := ⟨gb102, 1, none⟩) (Kd.R_far (p := ⟨gb102, 0, none⟩) (Kd.R_mono HO_5.out (fun k_ hk => (⟨hk, hk.2⟩ : _ ∧ k_ ≠ gb102))) (fun _ hk => hk.2) (.int .i64 ((rd_T23 l0 x6_1).f0))) (fun _ hk => hk.2) (.int .i64 ((rd_T23 l0 x6_1).f1))) (fun _ h_ => h_.1))))) (g := gb102) (o := .cells #[.int .i64 ((rd_T23 l0 x6_1).f0), .int .i64 ((rd_T23 l0 x6_1).f1)] 23 (0, 0)) (by (with_reducible repeat (first | refine blk_drewN ?_ _ | refine blk_drew ?_ | refine blk_alloc ?_ _)); refine blk_put (cs := #[.int .i64 ((rd_T23 l0 x6_1).f0), .int .i64 0]) ?_ 1 _ rfl; (with_reducible repeat (first | refine blk_drewN ?_ _ | refine blk_drew ?_ | refine blk_alloc ?_ _)); refine blk_put (cs := #[.int .i64 0, .int .i64 0]) ?_ 0 _ rfl; (with_reducible repeat (first | refine blk_drewN ?_ _ | refine blk_drew ?_ | refine blk_alloc ?_ _)); exact BK102.out)) (below_size (bB1 HB GE102))); replace BK102 := Aside0.mk (blk_below (g := gb102) (o := .cells #[.int .i64 ((rd_T23 l0 x6_1).f0), .int .i64 ((rd_T23 l0 x6_1).f1)] 23 (0, 0)) (by (with_reducible repeat (first | refine blk_drewN ?_ _ | refine blk_drew ?_ | refine blk_alloc ?_ _)); refine blk_put (cs := #[.int .i64 ((rd_T23 l0 x6_1).f0), .int .i64 0]) ?_ 1 _ rfl; (with_reducible repeat (first | refine blk_drewN ?_ _ | refine blk_drew ?_ | refine blk_alloc ?_ _)); refine blk_put (cs := #[.int .i64 0, .int .i64 0]) ?_ 0 _ rfl; (with_reducible repeat (first | refine blk_drewN ?_ _ | refine blk_drew ?_ | refine blk_alloc ?_ _)); exact BK102.out) hb); replace HB := Aside0.mk (below_step (bB1 HB GE102) hb); clear HO_5; have HO_5 := n0_; clear n0_; clear hb ho9; obtain ⟨Ao11, co11, eo11⟩ := Kd.R_slice HO105.out; subst eo11) | ((with_reducible refine gate_builtin (b := .append) (xs := #[.tmp 18, .tmp 55]) rfl ?_); at_builtin; refine Kd.R_append_rows k23 (w0 := w) w.heap.size rfl (.tmp 18) (.tmp 55) 53 23 (.agg #[(.int .i64 0), (.int .i64 0)]) 16 rfl Try.underlying53 info23 rfl (by decide) (by omega) u5 x5_1 y103 _ _ _ (fun k_ => some k_ ≠ (.slice Ao11 y103.length co11 : Value).ownBlock ∧ k_ ≠ gb102) (fun _ => False) rfl rfl ?aO ?aR (fun _ _ h => h) (fun _ h => h.elim) ?aF ?aB ?aS ?aL ?_; (case aR => exact cB2 HO105); (case aB => exact (bB1 HB GE102)); (case aF => exact (fun k_ hk => ⟨Kd.fresh' (Kd.R_lt (rB HO105)) k_ hk, Kd.freshB (kB BK102) k_ hk⟩)); (case aO => exact (by (with_reducible repeat (first | apply Kd.R_alloc | apply Kd.R_drewN | apply Kd.R_drew)); exact Kd.R_mono HO_5.out (fun _ hk => ⟨hk.2, hk.1.2⟩))); (case aS => exact (below_size (bB1 HB GE102))); (case aL => have := LMc5.out; omega); intro v107 w10 ho hb hg hat; rw [← Ny106.out] at ho; replace BK102 := Aside0.mk (blk_grown (kB BK102) hg (Kd.R_away HO_5.out (fun _ hk => hk.1.2))); replace HO105 := Aside0.mk (Kd.R_after (ok := (fun k_ => k_ ≠ gb102)) (by (with_reducible repeat (first | apply Kd.R_alloc | apply Kd.R_drewN | apply Kd.R_drew)); exact Kd.R_mono HO105.out (fun _ hk => ⟨hk.2, hk.1.2⟩)) hg hat); replace HB := Aside0.mk (hb); have HO108 := Aside0.mk (ho); clear HO_5; clear ho hb hg hat))
      go_roundg k1
      case measure => have := HK1.out; omega
      case rel => exact ⟨(y106), (wrap64 (x6_1 + 1)), sB, H', ⟨by have := HK1.out; omega⟩, ⟨by (with_reducible repeat (first | apply Kd.R_alloc | apply Kd.R_drewN | apply Kd.R_drew)); exact Kd.R_mono HO108.out (fun _ hk => trivial)⟩, ⟨bB1 HB GE102⟩⟩
     ·rw [if_neg c5] at H
      exact absurd H (by simp)
    ·rw [if_neg c4] at H
     exact absurd H (by simp)
   ·rw [if_neg c3] at H
    have c3b0 : decide (x6_1 < (l0.length : Int)) = false := decide_eq_false c3
    clear c3
    replace H := Option.bind_eq_some_iff.mp H
    obtain ⟨t109, A120, H⟩ := H
    replace H : (some t109) = some r := H
    have A12 := Aside0.mk A120
    clear A120
    obtain rfl := Option.some.inj H
    obtain ⟨Ao13, co13, eo13⟩ := Kd.R_slice HO_5.out
    subst eo13
    go_wp2_with (first | ((with_reducible refine gate_callee (f := 96) rfl ?_); refine goesL_ (some 58) rfl rfl Try.func96 (by kernel_rfl) rfl #[.slice Ao13 x5_1.length co13] rfl mB ?_; (with_reducible refine (gooseneckref01_Corners.calls k1 _ _ x5_1 t109 _ ?side1 ?side2 A12.out).mono ?_); (case side1 => exact cB2 HO_5); (case side2 => exact (Kd.R_reads' HO_5.out).2.1); rintro e w14 ⟨v110, rfl, ho0, hb⟩; refine ⟨_, rfl, ?_⟩; have n0_ := Aside0.mk (Kd.R_elder' (rB HO_5) (Kd.R_base ho0) hb); have HO111 := Aside0.mk (Kd.R_lower (Kd.R_new' ho0 (Kd.R_lt (rB HO_5))) (below_size (bB0 HB))); replace HB := Aside0.mk (below_step (bB0 HB) hb); clear HO_5; have HO_5 := n0_; clear n0_; (try clear hb); (try clear hb2); (try clear hk); (try clear hi); (try clear ho0)))
    go_ret
    exact ⟨_, eB, by (with_reducible repeat (first | apply Kd.R_alloc | apply Kd.R_drewN | apply Kd.R_drew)); exact Kd.R_mono HO111.out (fun _ hk => trivial), bB0 HB⟩
def gooseneckref01_Apart.l0 : Nat → List (S23) → List (S23) → Int → Int → Option (Int)
 | 0, _, _, _, _ => none
 | k + 1, x0, x1, x5, x6 => if x5 < x6 then ((gooseneckref01_Grown.f k x0 (wrap64 (Int.tdiv (wrap64 (x5 + x6)) 2))).bind fun t101 => ((gooseneckref01_Meets.f k t101 x1).bind fun t104 => (if t104 = true then (gooseneckref01_Apart.l0 k x0 x1 x5 (wrap64 (Int.tdiv (wrap64 (x5 + x6)) 2))) else (gooseneckref01_Apart.l0 k x0 x1 (wrap64 ((wrap64 (Int.tdiv (wrap64 (x5 + x6)) 2)) + 1)) x6)))) else (some x5)
def gooseneckref01_Apart.f (k : Nat) (l0 : List (S23)) (l1 : List (S23)) : Option (Int) := gooseneckref01_Apart.l0 k l0 l1 0 33554432
theorem gooseneckref01_Apart.mono_l : ∀ k, (∀ y0 y1 y2 y3, LeO (gooseneckref01_Apart.l0 k y0 y1 y2 y3) (gooseneckref01_Apart.l0 (k + 1) y0 y1 y2 y3))
 | 0 => fun _ _ _ _ r h => by simp [gooseneckref01_Apart.l0] at h
 | k + 1 => by
  have ih0 := gooseneckref01_Apart.mono_l k
  ·intro y0 y1 y2 y3
   unfold gooseneckref01_Apart.l0
   repeat' first
   | (with_reducible exact ih0 _ _ _ _)
   | (with_reducible exact gooseneckref01_Grown.mono _ _ _)
   | (with_reducible exact gooseneckref01_Meets.mono _ _ _)
   | (with_reducible exact LeO.refl _)
   | (with_reducible exact LeO.none _)
   | (with_reducible refine LeO.ite ?_ ?_)
   | (with_reducible refine LeO.bind ?_ (fun _ => ?_))
   | exact ih0 _ _ _ _
   | exact gooseneckref01_Grown.mono _ _ _
   | exact gooseneckref01_Meets.mono _ _ _
   | exact LeO.none _
   | refine LeO.ite ?_ ?_
   | refine LeO.bind ?_ (fun _ => ?_)
theorem gooseneckref01_Apart.mono : ∀ a0 a1 k, LeO (gooseneckref01_Apart.f k a0 a1) (gooseneckref01_Apart.f (k + 1) a0 a1) := by
 intro a0 a1 k
 have ih0 := gooseneckref01_Apart.mono_l k
 unfold gooseneckref01_Apart.f
 repeat' first
   | (with_reducible exact ih0 _ _ _ _)
   | (with_reducible exact gooseneckref01_Grown.mono _ _ _)
   | (with_reducible exact gooseneckref01_Meets.mono _ _ _)
   | (with_reducible exact LeO.refl _)
   | (with_reducible exact LeO.none _)
   | (with_reducible refine LeO.ite ?_ ?_)
   | (with_reducible refine LeO.bind ?_ (fun _ => ?_))
   | exact ih0 _ _ _ _
   | exact gooseneckref01_Grown.mono _ _ _
   | exact gooseneckref01_Meets.mono _ _ _
   | exact LeO.none _
   | refine LeO.ite ?_ ?_
   | refine LeO.bind ?_ (fun _ => ?_)
set_option maxHeartbeats 8000000 in
set_option maxRecDepth 100000 in
theorem gooseneckref01_Apart.calls (k : Nat) (A0 : Option Addr) (c0 : Nat) (l0 : List (S23)) (A1 : Option Addr) (c1 : Nat) (l1 : List (S23)) (r : Int) (w : World) (hr0 : Kd.C k23 w A0 l0.length l0) (hc0 : l0.length ≤ c0) (hr1 : Kd.C k23 w A1 l1.length l1) (hc1 : l1.length ≤ c1) (h : gooseneckref01_Apart.f k l0 l1 = some r) :
  Calls Try.prog 103 #[.slice A0 l0.length c0, .slice A1 l1.length c1] w fun e w' => e = .returned (.int .i64 r) ∧ Below w.heap.size w w' := by
 have HR0 := Aside0.mk hr0
 have HC0 := Aside0.mk hc0
 clear hr0 hc0
 have HR1 := Aside0.mk hr1
 have HC1 := Aside0.mk hc1
 clear hr1 hc1
 have HB := Aside0.mk (Below.refl w.heap.size w)
 have H : (gooseneckref01_Apart.l0 k l0 l1 0 33554432) = some r := h
 clear h
 have H' := Aside0.mk H
 clear H
 go_enter Try.func103, Try.ntmps103
 go_wp2
 go_loopg [5, 6] k (fun kq v5 v6 w' => ∃ (x5_1 : Int) (x6_1 : Int), v5 = .int .i64 x5_1 ∧ v6 = .int .i64 x6_1 ∧ Aside0 (gooseneckref01_Apart.l0 kq l0 l1 x5_1 x6_1 = some r) ∧ Aside0 (kq ≤ k) ∧ Aside0 (Below w.heap.size w w'))
 case atStart => exact ⟨(0), (33554432), sB, sB, H', ⟨Nat.le_refl _⟩, ⟨bB0 HB⟩⟩
 case round =>
  clear H'
  try clear c1
  try clear p2
  obtain ⟨x5_1, x6_1, rfl, rfl, HA, HK1, HB⟩ := hrel
  cases gk with
  | zero => exact absurd HA.out (by simp [gooseneckref01_Apart.l0])
  | succ k1 =>
   have H := HA.out
   clear HA
   simp only [gooseneckref01_Apart.l0] at H
   by_cases c3 : x5_1 < x6_1
   ·rw [if_pos c3] at H
    have c3b0 : decide (x5_1 < x6_1) = true := decide_eq_true c3
    clear c3
    replace H := Option.bind_eq_some_iff.mp H
    obtain ⟨t101, A40, H⟩ := H
    replace H : ((gooseneckref01_Meets.f k1 t101 l1).bind fun t104 => (if t104 = true then (gooseneckref01_Apart.l0 k1 l0 l1 x5_1 (wrap64 (Int.tdiv (wrap64 (x5_1 + x6_1)) 2))) else (gooseneckref01_Apart.l0 k1 l0 l1 (wrap64 ((wrap64 (Int.tdiv (wrap64 (x5_1 + x6_1)) 2)) + 1)) x6_1))) = some r := H
    have A4 := Aside0.mk A40
    clear A40
    replace H := Option.bind_eq_some_iff.mp H
    obtain ⟨t104, A50, H⟩ := H
    replace H : (if t104 = true then (gooseneckref01_Apart.l0 k1 l0 l1 x5_1 (wrap64 (Int.tdiv (wrap64 (x5_1 + x6_1)) 2))) else (gooseneckref01_Apart.l0 k1 l0 l1 (wrap64 ((wrap64 (Int.tdiv (wrap64 (x5_1 + x6_1)) 2)) + 1)) x6_1)) = some r := H
    have A5 := Aside0.mk A50
    clear A50
    by_cases c6 : t104 = true
    ·subst c6
     have H1 : (gooseneckref01_Apart.l0 k1 l0 l1 x5_1 (wrap64 (Int.tdiv (wrap64 (x5_1 + x6_1)) 2))) = some r := by rw [if_pos rfl] at H; exact H
     clear H
     have H := H1
     clear H1
     have H' := Aside0.mk H
     clear H
     go_wp2_with (first | ((with_reducible refine gate_callee (f := 101) rfl ?_); refine goesL_ (some 17) rfl rfl Try.func101 (by kernel_rfl) rfl #[.slice A0 l0.length c0, .int .i64 (wrap64 (Int.tdiv (wrap64 (x5_1 + x6_1)) 2))] rfl mB ?_; (with_reducible refine (gooseneckref01_Grown.calls k1 _ _ l0 (wrap64 (Int.tdiv (wrap64 (x5_1 + x6_1)) 2)) t101 _ ?side1 ?side2 A4.out).mono ?_); (case side1 => exact cB HR0 HB); (case side2 => exact HC0.out); rintro e w7 ⟨v102, rfl, ho0, hb⟩; refine ⟨_, rfl, ?_⟩; have HO103 := Aside0.mk (Kd.R_lower ho0 (below_size (bB0 HB))); replace HB := Aside0.mk (below_step (bB0 HB) hb); (try clear hb); (try clear hb2); (try clear hk); (try clear hi); (try clear ho0); obtain ⟨Ao8, co8, eo8⟩ := Kd.R_slice HO103.out; subst eo8) | ((with_reducible refine gate_callee (f := 102) rfl ?_); refine goesL_ (some 19) rfl rfl Try.func102 (by kernel_rfl) rfl #[.slice Ao8 t101.length co8, .slice A1 l1.length c1] rfl mB ?_; (with_reducible refine (gooseneckref01_Meets.calls k1 _ _ t101 _ _ l1 true _ ?side1 ?side2 ?side3 ?side4 A5.out).mono ?_); (case side1 => exact cB2 HO103); (case side2 => exact (Kd.R_reads' HO103.out).2.1); (case side3 => exact cB HR1 HB); (case side4 => exact HC1.out); rintro e w9 ⟨rfl, hb⟩; refine ⟨_, rfl, ?_⟩; replace HO103 := Aside0.mk (Kd.R_below (rB HO103) hb); replace HB := Aside0.mk (below_step (bB0 HB) hb); (try clear hb); (try clear hb2); (try clear hk); (try clear hi)))
     go_roundg k1
     case measure => have := HK1.out; omega
     case rel => exact ⟨(x5_1), (wrap64 (Int.tdiv (wrap64 (x5_1 + x6_1)) 2)), sB, sB, H', ⟨by have := HK1.out; omega⟩, ⟨bB0 HB⟩⟩
    ·replace c6 := Bool.eq_false_iff.mpr c6
     subst c6
     have H1 : (gooseneckref01_Apart.l0 k1 l0 l1 (wrap64 ((wrap64 (Int.tdiv (wrap64 (x5_1 + x6_1)) 2)) + 1)) x6_1) = some r := by rw [if_neg (show ¬ (false = true) by decide)] at H; exact H
     clear H
     have H := H1
     clear H1
     have H' := Aside0.mk H
     clear H
     go_wp2_with (first | ((with_reducible refine gate_callee (f := 101) rfl ?_); refine goesL_ (some 17) rfl rfl Try.func101 (by kernel_rfl) rfl #[.slice A0 l0.length c0, .int .i64 (wrap64 (Int.tdiv (wrap64 (x5_1 + x6_1)) 2))] rfl mB ?_; (with_reducible refine (gooseneckref01_Grown.calls k1 _ _ l0 (wrap64 (Int.tdiv (wrap64 (x5_1 + x6_1)) 2)) t101 _ ?side1 ?side2 A4.out).mono ?_); (case side1 => exact cB HR0 HB); (case side2 => exact HC0.out); rintro e w10 ⟨v102, rfl, ho0, hb⟩; refine ⟨_, rfl, ?_⟩; have HO103 := Aside0.mk (Kd.R_lower ho0 (below_size (bB0 HB))); replace HB := Aside0.mk (below_step (bB0 HB) hb); (try clear hb); (try clear hb2); (try clear hk); (try clear hi); (try clear ho0); obtain ⟨Ao11, co11, eo11⟩ := Kd.R_slice HO103.out; subst eo11) | ((with_reducible refine gate_callee (f := 102) rfl ?_); refine goesL_ (some 19) rfl rfl Try.func102 (by kernel_rfl) rfl #[.slice Ao11 t101.length co11, .slice A1 l1.length c1] rfl mB ?_; (with_reducible refine (gooseneckref01_Meets.calls k1 _ _ t101 _ _ l1 false _ ?side1 ?side2 ?side3 ?side4 A5.out).mono ?_); (case side1 => exact cB2 HO103); (case side2 => exact (Kd.R_reads' HO103.out).2.1); (case side3 => exact cB HR1 HB); (case side4 => exact HC1.out); rintro e w12 ⟨rfl, hb⟩; refine ⟨_, rfl, ?_⟩; replace HO103 := Aside0.mk (Kd.R_below (rB HO103) hb); replace HB := Aside0.mk (below_step (bB0 HB) hb); (try clear hb); (try clear hb2); (try clear hk); (try clear hi)))
     go_roundg k1
     case measure => have := HK1.out; omega
     case rel => exact ⟨(wrap64 ((wrap64 (Int.tdiv (wrap64 (x5_1 + x6_1)) 2)) + 1)), (x6_1), sB, sB, H', ⟨by have := HK1.out; omega⟩, ⟨bB0 HB⟩⟩
   ·rw [if_neg c3] at H
    have c3b0 : decide (x5_1 < x6_1) = false := decide_eq_false c3
    clear c3
    obtain rfl := Option.some.inj H
    go_wp2
    go_ret
    exact ⟨eB, bB0 HB⟩
def gooseneckref01_Gap.f (k : Nat) (l0 : List (S23)) (l1 : List (S23)) : Option (Int × Int) := (gooseneckref01_hulls.f k l0 l1).bind fun t101 => (if t101 = 0 then ((gooseneckref01_Apart.f k l0 l1).bind fun t102 => (some (t102, 0))) else (some (0, t101)))
theorem gooseneckref01_Gap.mono : ∀ a0 a1 k, LeO (gooseneckref01_Gap.f k a0 a1) (gooseneckref01_Gap.f (k + 1) a0 a1) := by
 intro a0 a1 k
 unfold gooseneckref01_Gap.f
 repeat' first
   | (with_reducible exact gooseneckref01_Apart.mono _ _ _)
   | (with_reducible exact gooseneckref01_hulls.mono _ _ _)
   | (with_reducible exact LeO.refl _)
   | (with_reducible exact LeO.none _)
   | (with_reducible refine LeO.ite ?_ ?_)
   | (with_reducible refine LeO.bind ?_ (fun _ => ?_))
   | exact gooseneckref01_Apart.mono _ _ _
   | exact gooseneckref01_hulls.mono _ _ _
   | exact LeO.none _
   | refine LeO.ite ?_ ?_
   | refine LeO.bind ?_ (fun _ => ?_)
set_option maxHeartbeats 8000000 in
set_option maxRecDepth 100000 in
theorem gooseneckref01_Gap.calls (k : Nat) (A0 : Option Addr) (c0 : Nat) (l0 : List (S23)) (A1 : Option Addr) (c1 : Nat) (l1 : List (S23)) (r1 : Int) (r2 : Int) (w : World) (hr0 : Kd.C k23 w A0 l0.length l0) (hc0 : l0.length ≤ c0) (hr1 : Kd.C k23 w A1 l1.length l1) (hc1 : l1.length ≤ c1) (h : gooseneckref01_Gap.f k l0 l1 = some (r1, r2)) :
  Calls Try.prog 61 #[.slice A0 l0.length c0, .slice A1 l1.length c1] w fun e w' => e = .returned (.tuple #[.int .i64 r1, .int .i64 r2]) ∧ Below w.heap.size w w' := by
 have HR0 := Aside0.mk hr0
 have HC0 := Aside0.mk hc0
 clear hr0 hc0
 have HR1 := Aside0.mk hr1
 have HC1 := Aside0.mk hc1
 clear hr1 hc1
 have HB := Aside0.mk (Below.refl w.heap.size w)
 have H : ((gooseneckref01_hulls.f k l0 l1).bind fun t101 => (if t101 = 0 then ((gooseneckref01_Apart.f k l0 l1).bind fun t102 => (some (t102, 0))) else (some (0, t101)))) = some (r1, r2) := h
 clear h
 replace H := Option.bind_eq_some_iff.mp H
 obtain ⟨t101, A30, H⟩ := H
 replace H : (if t101 = 0 then ((gooseneckref01_Apart.f k l0 l1).bind fun t102 => (some (t102, 0))) else (some (0, t101))) = some (r1, r2) := H
 have A3 := Aside0.mk A30
 clear A30
 by_cases c4 : t101 = 0
 ·rw [if_pos c4] at H
  have c4b0 : (t101 == 0) = true := beq_iff_eq.mpr c4
  have c4b1 : (t101 != 0) = false := bne_eq_false_iff_eq.mpr c4
  clear c4
  replace H := Option.bind_eq_some_iff.mp H
  obtain ⟨t102, A50, H⟩ := H
  replace H : (some (t102, 0)) = some (r1, r2) := H
  have A5 := Aside0.mk A50
  clear A50
  simp only [Option.some.injEq, Prod.mk.injEq] at H
  obtain ⟨rfl, rfl⟩ := H
  go_enter Try.func61, Try.ntmps61
  go_wp2_with (first | ((with_reducible refine gate_callee (f := 97) rfl ?_); refine goesL_ (some 9) rfl rfl Try.func97 (by kernel_rfl) rfl #[.slice A0 l0.length c0, .slice A1 l1.length c1] rfl mB ?_; (with_reducible refine (gooseneckref01_hulls.calls k _ _ l0 _ _ l1 t101 _ ?side1 ?side2 ?side3 ?side4 A3.out).mono ?_); (case side1 => exact cB1 HR0); (case side2 => exact HC0.out); (case side3 => exact cB1 HR1); (case side4 => exact HC1.out); rintro e w6 ⟨rfl, hb⟩; refine ⟨_, rfl, ?_⟩; replace HB := Aside0.mk (below_step (bB0 HB) hb); (try clear hb); (try clear hb2); (try clear hk); (try clear hi)) | ((with_reducible refine gate_callee (f := 103) rfl ?_); refine goesL_ (some 15) rfl rfl Try.func103 (by kernel_rfl) rfl #[.slice A0 l0.length c0, .slice A1 l1.length c1] rfl mB ?_; (with_reducible refine (gooseneckref01_Apart.calls k _ _ l0 _ _ l1 t102 _ ?side1 ?side2 ?side3 ?side4 A5.out).mono ?_); (case side1 => exact cB HR0 HB); (case side2 => exact HC0.out); (case side3 => exact cB HR1 HB); (case side4 => exact HC1.out); rintro e w7 ⟨rfl, hb⟩; refine ⟨_, rfl, ?_⟩; replace HB := Aside0.mk (below_step (bB0 HB) hb); (try clear hb); (try clear hb2); (try clear hk); (try clear hi)))
  go_ret2
  exact ⟨eB, bB0 HB⟩
 ·rw [if_neg c4] at H
  have c4b0 : (t101 == 0) = false := beq_eq_false_iff_ne.mpr c4
  have c4b1 : (t101 != 0) = true := bne_iff_ne.mpr c4
  simp only [Option.some.injEq, Prod.mk.injEq] at H
  obtain ⟨rfl, rfl⟩ := H
  go_enter Try.func61, Try.ntmps61
  go_wp2_with (first | ((with_reducible refine gate_callee (f := 97) rfl ?_); refine goesL_ (some 9) rfl rfl Try.func97 (by kernel_rfl) rfl #[.slice A0 l0.length c0, .slice A1 l1.length c1] rfl mB ?_; (with_reducible refine (gooseneckref01_hulls.calls k _ _ l0 _ _ l1 t101 _ ?side1 ?side2 ?side3 ?side4 A3.out).mono ?_); (case side1 => exact cB1 HR0); (case side2 => exact HC0.out); (case side3 => exact cB1 HR1); (case side4 => exact HC1.out); rintro e w8 ⟨rfl, hb⟩; refine ⟨_, rfl, ?_⟩; replace HB := Aside0.mk (below_step (bB0 HB) hb); (try clear hb); (try clear hb2); (try clear hk); (try clear hi)))
  go_ret2
  exact ⟨eB, bB0 HB⟩
def plane_CheckPart.j0 : Nat → List (S23) → List (S23) → Bool → Int → Int → Int → Option (Int)
 | 0, _, _, _, _, _, _ => none
 | k + 1, x0, x1, x34, x102000, x102001, x102002 => if x34 = true then (some 3) else ((plane_span.f x102000 x102001 x102002 x0).bind fun bt109 => ((plane_span.f x102000 x102001 x102002 x1).bind fun bt111 => (if bt109.2 > x102002 then (some 16) else (if bt111.1 ≤ x102002 then (some 16) else (some 0)))))
def plane_CheckPart.f (k : Nat) (l0 : List (S23)) (l1 : List (S23)) (a2_0 : Int) (a2_1 : Int) (a2_2 : Int) : Option (Int) := (plane_checkHulls.f (([l0, l1] : List (List (S23))))).bind fun t105 => (if t105 = 0 then ((plane_within.f a2_0 (-67108864) 67108864).bind fun t106 => (if t106 = true then ((plane_within.f a2_1 (-67108864) 67108864).bind fun t107 => (if t107 = true then ((plane_within.f a2_2 (-4503599627370496) 4503599627370496).bind fun t108 => (plane_CheckPart.j0 k l0 l1 (!t108) a2_0 a2_1 a2_2)) else (plane_CheckPart.j0 k l0 l1 true a2_0 a2_1 a2_2))) else (plane_CheckPart.j0 k l0 l1 true a2_0 a2_1 a2_2))) else (some t105))
theorem plane_CheckPart.mono_l : ∀ k, (∀ y0 y1 y2 y3 y4 y5, LeO (plane_CheckPart.j0 k y0 y1 y2 y3 y4 y5) (plane_CheckPart.j0 (k + 1) y0 y1 y2 y3 y4 y5))
 | 0 => fun _ _ _ _ _ _ r h => by simp [plane_CheckPart.j0] at h
 | k + 1 => by
  have ih0 := plane_CheckPart.mono_l k
  ·intro y0 y1 y2 y3 y4 y5
   unfold plane_CheckPart.j0
   repeat' first
   | (with_reducible exact ih0 _ _ _ _ _ _)
   | (with_reducible exact LeO.refl _)
   | (with_reducible exact LeO.none _)
   | (with_reducible refine LeO.ite ?_ ?_)
   | (with_reducible refine LeO.bind ?_ (fun _ => ?_))
   | exact ih0 _ _ _ _ _ _
   | exact LeO.none _
   | refine LeO.ite ?_ ?_
   | refine LeO.bind ?_ (fun _ => ?_)
theorem plane_CheckPart.mono : ∀ a0 a1 a2 a3 a4 k, LeO (plane_CheckPart.f k a0 a1 a2 a3 a4) (plane_CheckPart.f (k + 1) a0 a1 a2 a3 a4) := by
 intro a0 a1 a2 a3 a4 k
 have ih0 := plane_CheckPart.mono_l k
 unfold plane_CheckPart.f
 repeat' first
   | (with_reducible exact ih0 _ _ _ _ _ _)
   | (with_reducible exact LeO.refl _)
   | (with_reducible exact LeO.none _)
   | (with_reducible refine LeO.ite ?_ ?_)
   | (with_reducible refine LeO.bind ?_ (fun _ => ?_))
   | exact ih0 _ _ _ _ _ _
   | exact LeO.none _
   | refine LeO.ite ?_ ?_
   | refine LeO.bind ?_ (fun _ => ?_)
set_option maxHeartbeats 8000000 in
set_option maxRecDepth 100000 in
theorem plane_CheckPart.calls (k : Nat) (P0_ : Nat → Prop) (A0 : Option Addr) (c0 : Nat) (l0 : List (S23)) (P1_ : Nat → Prop) (A1 : Option Addr) (c1 : Nat) (l1 : List (S23)) (a2_0 : Int) (a2_1 : Int) (a2_2 : Int) (r : Int) (w : World) (hs0 : Kd.V k23 23 w w.heap.size (fun k_ => P0_ k_) (.slice A0 l0.length c0) l0) (hs1 : Kd.V k23 23 w w.heap.size (fun k_ => P1_ k_) (.slice A1 l1.length c1) l1) (h : plane_CheckPart.f k l0 l1 a2_0 a2_1 a2_2 = some r) :
  Calls Try.prog 62 #[.slice A0 l0.length c0, .slice A1 l1.length c1, .agg #[.int .i64 a2_0, .int .i64 a2_1, .int .i64 a2_2]] w fun e w' => e = .returned (.int .i64 r) ∧ Below w.heap.size w w' := by
 have hu75 := Try.underlying75
 have HO0 := Aside0.mk (show Kd.V k23 23 w w.heap.size (fun k_ => ((P0_ k_ ∨ P1_ k_) ∨ w.heap.size ≤ k_)) (.slice A0 l0.length c0) l0 from Kd.V_mono hs0 (fun k_ hk => .inl (.inl hk)))
 have HO1 := Aside0.mk (show Kd.V k23 23 w w.heap.size (fun k_ => ((P0_ k_ ∨ P1_ k_) ∨ w.heap.size ≤ k_)) (.slice A1 l1.length c1) l1 from Kd.V_mono hs1 (fun k_ hk => .inl (.inr hk)))
 have HB := Aside0.mk (Below.refl w.heap.size w)
 have H : ((plane_checkHulls.f (([l0, l1] : List (List (S23))))).bind fun t105 => (if t105 = 0 then ((plane_within.f a2_0 (-67108864) 67108864).bind fun t106 => (if t106 = true then ((plane_within.f a2_1 (-67108864) 67108864).bind fun t107 => (if t107 = true then ((plane_within.f a2_2 (-4503599627370496) 4503599627370496).bind fun t108 => (plane_CheckPart.j0 k l0 l1 (!t108) a2_0 a2_1 a2_2)) else (plane_CheckPart.j0 k l0 l1 true a2_0 a2_1 a2_2))) else (plane_CheckPart.j0 k l0 l1 true a2_0 a2_1 a2_2))) else (some t105))) = some r := h
 clear h
 obtain ⟨y102, hy102⟩ : ∃ y_ : List (List (S23)), y_ = (([l0, l1] : List (List (S23)))) := ⟨_, rfl⟩
 replace H : ((plane_checkHulls.f y102).bind fun t105 => (if t105 = 0 then ((plane_within.f a2_0 (-67108864) 67108864).bind fun t106 => (if t106 = true then ((plane_within.f a2_1 (-67108864) 67108864).bind fun t107 => (if t107 = true then ((plane_within.f a2_2 (-4503599627370496) 4503599627370496).bind fun t108 => (plane_CheckPart.j0 k l0 l1 (!t108) a2_0 a2_1 a2_2)) else (plane_CheckPart.j0 k l0 l1 true a2_0 a2_1 a2_2))) else (plane_CheckPart.j0 k l0 l1 true a2_0 a2_1 a2_2))) else (some t105))) = some r := by first | (rw [hy102]; with_reducible exact H) | (have H2_ := (Option.bind_some _ _).symm.trans H; rw [hy102]; with_reducible exact H2_) | (have H2_ := (Option.bind_some _ _).symm.trans H; with_reducible exact H2_) | with_reducible exact H | (rw [hy102]; exact H) | exact H
 have Ny102 := Aside0.mk hy102
 clear hy102
 replace H := Option.bind_eq_some_iff.mp H
 obtain ⟨t105, A40, H⟩ := H
 replace H : (if t105 = 0 then ((plane_within.f a2_0 (-67108864) 67108864).bind fun t106 => (if t106 = true then ((plane_within.f a2_1 (-67108864) 67108864).bind fun t107 => (if t107 = true then ((plane_within.f a2_2 (-4503599627370496) 4503599627370496).bind fun t108 => (plane_CheckPart.j0 k l0 l1 (!t108) a2_0 a2_1 a2_2)) else (plane_CheckPart.j0 k l0 l1 true a2_0 a2_1 a2_2))) else (plane_CheckPart.j0 k l0 l1 true a2_0 a2_1 a2_2))) else (some t105)) = some r := H
 have A4 := Aside0.mk A40
 clear A40
 by_cases c5 : t105 = 0
 ·rw [if_pos c5] at H
  have c5b0 : (t105 == 0) = true := beq_iff_eq.mpr c5
  have c5b1 : (t105 != 0) = false := bne_eq_false_iff_eq.mpr c5
  clear c5
  have HC6 := Aside0.mk H
  clear H
  go_enter Try.func62, Try.ntmps62
  go_upto_region 4 with (first | ((with_reducible refine gate_dst (N := 5) rfl ?_); refine boxE (N := 5) (cs := #[.int .i64 a2_0, .int .i64 a2_1, .int .i64 a2_2]) (t := 75) ?_; intro gb101 hg w7 hbox hb; replace HO0 := Aside0.mk (Kd.V_below (Kd.V_elderB (vB HO0) gb101 (Nat.le_of_eq hg.symm)) hb); replace HO1 := Aside0.mk (Kd.V_below (Kd.V_elderB (vB HO1) gb101 (Nat.le_of_eq hg.symm)) hb); have n2_ := Aside0.mk (below_step (bB0 HB) hb); have BK101 := Aside0.mk (hbox); have GW101 := Aside0.mk (szB hg (below_size (bB0 HB))); have GE101 := GW101; clear HB; have HB := n2_; clear n2_; clear hb hbox hg) | ((with_reducible refine gate_dst (N := 14) rfl ?_); refine Kd.N_lit (Kd.slice 23 k23) _ 53 ?hg (N' := 14) ?hd (xs := ([l0, l1] : List (List (S23)))) (inner := [.slice A0 l0.length c0, .slice A1 l1.length c1]) (ok := (fun k_ => ((P0_ k_ ∨ P1_ k_) ∨ w.heap.size ≤ k_) ∧ k_ ≠ gb101)) (okp := (fun k_ => ((P0_ k_ ∨ P1_ k_) ∨ w.heap.size ≤ k_) ∧ k_ ≠ gb101)) ?hr ?hp (fun _ hk => hk) ((show ∀ k_, w7.heap.size ≤ k_ → (fun k_ => ((P0_ k_ ∨ P1_ k_) ∨ w.heap.size ≤ k_) ∧ k_ ≠ gb101) k_ from fun k_ hk => ⟨(.inr (Nat.le_trans (below_size (bB1 HB GE101)) hk)), Kd.freshB (kB BK101) k_ hk⟩) _ (Nat.le_refl _)) (Below.refl _ _) (Nat.le_refl _) (by simp) ?_; (case hd => rfl); (case hg => rfl); (case hr => first | (go_simp; done) | (go_simp; rfl)); (case hp => exact (Reps.one (show Kd.FK (Kd.slice 23 k23) _ _ l0 [.slice A0 l0.length c0] from (Kd.FK_slice_mk (Kd.V_reads' (Kd.V_mono (ok' := (fun k_ => ((P0_ k_ ∨ P1_ k_) ∨ w.heap.size ≤ k_) ∧ k_ ≠ gb101)) (HO0.out) (fun k_ hk => ⟨hk.1, hk.2⟩))).2.1 (Kd.V_F (Kd.V_mono (ok' := (fun k_ => ((P0_ k_ ∨ P1_ k_) ∨ w.heap.size ≤ k_) ∧ k_ ≠ gb101)) (HO0.out) (fun k_ hk => ⟨hk.1, hk.2⟩))))) (Reps.one (show Kd.FK (Kd.slice 23 k23) _ _ l1 [.slice A1 l1.length c1] from (Kd.FK_slice_mk (Kd.V_reads' (Kd.V_mono (ok' := (fun k_ => ((P0_ k_ ∨ P1_ k_) ∨ w.heap.size ≤ k_) ∧ k_ ≠ gb101)) (HO1.out) (fun k_ hk => ⟨hk.1, hk.2⟩))).2.1 (Kd.V_F (Kd.V_mono (ok' := (fun k_ => ((P0_ k_ ∨ P1_ k_) ∨ w.heap.size ≤ k_) ∧ k_ ≠ gb101)) (HO1.out) (fun k_ hk => ⟨hk.1, hk.2⟩))))) (Reps.none _ _)))); intro v103 w8 ho9 hb hg_ hnew_; clear hg_ hnew_; (first | rw [← Ny102.out] at ho9 | (simp only [Int.reduceToNat] at ho9; rw [← Ny102.out] at ho9)); replace HO0 := Aside0.mk (Kd.V_elder' (vB HO0) (Kd.N_base ho9) hb); replace HO1 := Aside0.mk (Kd.V_elder' (vB HO1) (Kd.N_base ho9) hb); have HO104 := Aside0.mk (Kd.N_lower ho9 (below_size (bB1 HB GE101))); replace BK101 := Aside0.mk (blk_below (kB BK101) hb); replace HB := Aside0.mk (below_step (bB1 HB GE101) hb); clear hb ho9; obtain ⟨Ao10, co10, eo10⟩ := Kd.N_slice HO104.out; subst eo10) | ((with_reducible refine gate_callee (f := 94) rfl ?_); refine goesL_ (some 15) rfl rfl Try.func94 (by kernel_rfl) rfl #[.slice Ao10 y102.length co10] rfl mB ?_; (with_reducible refine (plane_checkHulls.calls _ _ y102 t105 _ ?side1 ?side2 A4.out).mono ?_); (case side1 => repeat (first | exact (Kd.N_reads' HO104.out).2.2 | (with_reducible refine Kd.C_alloc ?_ _) | (with_reducible refine Kd.C_drewN ?_ _) | (with_reducible refine Kd.C_drew ?_))); (case side2 => exact (Kd.N_reads' HO104.out).2.1); rintro e w11 ⟨rfl, hb⟩; refine ⟨_, rfl, ?_⟩; replace HO0 := Aside0.mk (Kd.V_below (vB HO0) hb); replace HO1 := Aside0.mk (Kd.V_below (vB HO1) hb); replace HO104 := Aside0.mk (Kd.N_below (by (with_reducible repeat (first | apply Kd.N_alloc | apply Kd.N_drewN | apply Kd.N_drew)); exact HO104.out) hb); replace BK101 := Aside0.mk (blk_below (kB BK101) hb); replace HB := Aside0.mk (below_step (bB1 HB GE101) hb); (try clear hb); (try clear hb2); (try clear hk); (try clear hi)))
  (try simp only [Act.put, List.setIfInBounds_toArray, List.set_cons_zero, List.set_cons_succ])
  go_cut [34] (fun v34 wc => ∃ (kq : Nat) (x34_5 : Bool), v34 = .bool x34_5 ∧ Aside0 (plane_CheckPart.j0 kq l0 l1 x34_5 a2_0 a2_1 a2_2 = some r) ∧ Aside0 (kq ≤ k) ∧ Aside0 (Kd.V k23 23 wc w.heap.size (fun k_ => ((P0_ k_ ∨ P1_ k_) ∨ w.heap.size ≤ k_) ∧ k_ ≠ gb101) (.slice A0 l0.length c0) l0) ∧ Aside0 (Kd.V k23 23 wc w.heap.size (fun k_ => ((P0_ k_ ∨ P1_ k_) ∨ w.heap.size ≤ k_) ∧ k_ ≠ gb101) (.slice A1 l1.length c1) l1) ∧ Aside0 (wc.heap[gb101]? = some (.cells #[.int .i64 a2_0, .int .i64 a2_1, .int .i64 a2_2] 75 (0, 0))) ∧ Aside0 (Below w.heap.size w wc))
  case first =>
   have H := HC6.out
   clear HC6
   replace H := Option.bind_eq_some_iff.mp H
   obtain ⟨t106, A120, H⟩ := H
   replace H : (if t106 = true then ((plane_within.f a2_1 (-67108864) 67108864).bind fun t107 => (if t107 = true then ((plane_within.f a2_2 (-4503599627370496) 4503599627370496).bind fun t108 => (plane_CheckPart.j0 k l0 l1 (!t108) a2_0 a2_1 a2_2)) else (plane_CheckPart.j0 k l0 l1 true a2_0 a2_1 a2_2))) else (plane_CheckPart.j0 k l0 l1 true a2_0 a2_1 a2_2)) = some r := H
   have A12 := Aside0.mk A120
   clear A120
   by_cases c13 : t106 = true
   ·subst c13
    have H1 : ((plane_within.f a2_1 (-67108864) 67108864).bind fun t107 => (if t107 = true then ((plane_within.f a2_2 (-4503599627370496) 4503599627370496).bind fun t108 => (plane_CheckPart.j0 k l0 l1 (!t108) a2_0 a2_1 a2_2)) else (plane_CheckPart.j0 k l0 l1 true a2_0 a2_1 a2_2))) = some r := by rw [if_pos rfl] at H; exact H
    clear H
    have H := H1
    clear H1
    replace H := Option.bind_eq_some_iff.mp H
    obtain ⟨t107, A140, H⟩ := H
    replace H : (if t107 = true then ((plane_within.f a2_2 (-4503599627370496) 4503599627370496).bind fun t108 => (plane_CheckPart.j0 k l0 l1 (!t108) a2_0 a2_1 a2_2)) else (plane_CheckPart.j0 k l0 l1 true a2_0 a2_1 a2_2)) = some r := H
    have A14 := Aside0.mk A140
    clear A140
    by_cases c15 : t107 = true
    ·subst c15
     have H1 : ((plane_within.f a2_2 (-4503599627370496) 4503599627370496).bind fun t108 => (plane_CheckPart.j0 k l0 l1 (!t108) a2_0 a2_1 a2_2)) = some r := by rw [if_pos rfl] at H; exact H
     clear H
     have H := H1
     clear H1
     replace H := Option.bind_eq_some_iff.mp H
     obtain ⟨t108, A160, H⟩ := H
     replace H : (plane_CheckPart.j0 k l0 l1 (!t108) a2_0 a2_1 a2_2) = some r := H
     have A16 := Aside0.mk A160
     clear A160
     have H' := Aside0.mk H
     clear H
     have hcz17_0 : w11.cell? ⟨gb101, 0, none⟩ = some (.int .i64 a2_0) := (blk_cell BK101.out 0).trans rfl
     have hcz17_1 : w11.cell? ⟨gb101, 1, none⟩ = some (.int .i64 a2_1) := (blk_cell BK101.out 1).trans rfl
     have hcz17_2 : w11.cell? ⟨gb101, 2, none⟩ = some (.int .i64 a2_2) := (blk_cell BK101.out 2).trans rfl
     have hfz17_0 := blk_frozen BK101.out 0
     have hfz17_1 := blk_frozen BK101.out 1
     have hfz17_2 := blk_frozen BK101.out 2
     go_wp2_with (first | ((with_reducible refine gate_callee (f := 67) rfl ?_); refine goesL_ (some 21) rfl rfl Try.func67 (by kernel_rfl) rfl #[.int .i64 a2_0, .int .i64 (-67108864), .int .i64 67108864] rfl mB ?_; (with_reducible refine (plane_within.calls a2_0 (-67108864) 67108864 true _ A12.out).mono ?_); rintro e w' ⟨rfl, ⟨nd, rfl⟩⟩; refine ⟨_, rfl, ?_⟩) | (go_at_call 67; (with_reducible refine (plane_within.calls a2_1 (-67108864) 67108864 true _ A14.out).mono ?_); rintro e w' ⟨rfl, ⟨nd, rfl⟩⟩) | (go_at_call 67; (with_reducible refine (plane_within.calls a2_2 (-4503599627370496) 4503599627370496 t108 _ A16.out).mono ?_); rintro e w' ⟨rfl, ⟨nd, rfl⟩⟩))
     go_meet
     case rel => exact ⟨_, (!t108), sB, H', ⟨by first | omega | exact Nat.le_refl _⟩, ⟨by (with_reducible repeat (first | apply Kd.V_alloc | apply Kd.V_drewN | apply Kd.V_drew)); exact Kd.V_mono HO0.out (fun _ hk => ⟨hk.1.1, hk.1.2⟩)⟩, ⟨by (with_reducible repeat (first | apply Kd.V_alloc | apply Kd.V_drewN | apply Kd.V_drew)); exact Kd.V_mono HO1.out (fun _ hk => ⟨hk.1.1, hk.1.2⟩)⟩, ⟨by (with_reducible repeat (first | refine blk_drewN ?_ _ | refine blk_drew ?_ | refine blk_alloc ?_ _)); exact BK101.out⟩, ⟨bB1 HB GE101⟩⟩
    ·replace c15 := Bool.eq_false_iff.mpr c15
     subst c15
     have H1 : (plane_CheckPart.j0 k l0 l1 true a2_0 a2_1 a2_2) = some r := by rw [if_neg (show ¬ (false = true) by decide)] at H; exact H
     clear H
     have H := H1
     clear H1
     have H' := Aside0.mk H
     clear H
     have hcz18_0 : w11.cell? ⟨gb101, 0, none⟩ = some (.int .i64 a2_0) := (blk_cell BK101.out 0).trans rfl
     have hcz18_1 : w11.cell? ⟨gb101, 1, none⟩ = some (.int .i64 a2_1) := (blk_cell BK101.out 1).trans rfl
     have hcz18_2 : w11.cell? ⟨gb101, 2, none⟩ = some (.int .i64 a2_2) := (blk_cell BK101.out 2).trans rfl
     have hfz18_0 := blk_frozen BK101.out 0
     have hfz18_1 := blk_frozen BK101.out 1
     have hfz18_2 := blk_frozen BK101.out 2
     go_wp2_with (first | ((with_reducible refine gate_callee (f := 67) rfl ?_); refine goesL_ (some 21) rfl rfl Try.func67 (by kernel_rfl) rfl #[.int .i64 a2_0, .int .i64 (-67108864), .int .i64 67108864] rfl mB ?_; (with_reducible refine (plane_within.calls a2_0 (-67108864) 67108864 true _ A12.out).mono ?_); rintro e w' ⟨rfl, ⟨nd, rfl⟩⟩; refine ⟨_, rfl, ?_⟩) | (go_at_call 67; (with_reducible refine (plane_within.calls a2_1 (-67108864) 67108864 false _ A14.out).mono ?_); rintro e w' ⟨rfl, ⟨nd, rfl⟩⟩))
     go_meet
     case rel => exact ⟨_, (true), sB, H', ⟨by first | omega | exact Nat.le_refl _⟩, ⟨by (with_reducible repeat (first | apply Kd.V_alloc | apply Kd.V_drewN | apply Kd.V_drew)); exact Kd.V_mono HO0.out (fun _ hk => ⟨hk.1.1, hk.1.2⟩)⟩, ⟨by (with_reducible repeat (first | apply Kd.V_alloc | apply Kd.V_drewN | apply Kd.V_drew)); exact Kd.V_mono HO1.out (fun _ hk => ⟨hk.1.1, hk.1.2⟩)⟩, ⟨by (with_reducible repeat (first | refine blk_drewN ?_ _ | refine blk_drew ?_ | refine blk_alloc ?_ _)); exact BK101.out⟩, ⟨bB1 HB GE101⟩⟩
   ·replace c13 := Bool.eq_false_iff.mpr c13
    subst c13
    have H1 : (plane_CheckPart.j0 k l0 l1 true a2_0 a2_1 a2_2) = some r := by rw [if_neg (show ¬ (false = true) by decide)] at H; exact H
    clear H
    have H := H1
    clear H1
    have H' := Aside0.mk H
    clear H
    have hcz19_0 : w11.cell? ⟨gb101, 0, none⟩ = some (.int .i64 a2_0) := (blk_cell BK101.out 0).trans rfl
    have hcz19_1 : w11.cell? ⟨gb101, 1, none⟩ = some (.int .i64 a2_1) := (blk_cell BK101.out 1).trans rfl
    have hcz19_2 : w11.cell? ⟨gb101, 2, none⟩ = some (.int .i64 a2_2) := (blk_cell BK101.out 2).trans rfl
    have hfz19_0 := blk_frozen BK101.out 0
    have hfz19_1 := blk_frozen BK101.out 1
    have hfz19_2 := blk_frozen BK101.out 2
    go_wp2_with (first | ((with_reducible refine gate_callee (f := 67) rfl ?_); refine goesL_ (some 21) rfl rfl Try.func67 (by kernel_rfl) rfl #[.int .i64 a2_0, .int .i64 (-67108864), .int .i64 67108864] rfl mB ?_; (with_reducible refine (plane_within.calls a2_0 (-67108864) 67108864 false _ A12.out).mono ?_); rintro e w' ⟨rfl, ⟨nd, rfl⟩⟩; refine ⟨_, rfl, ?_⟩))
    go_meet
    case rel => exact ⟨_, (true), sB, H', ⟨by first | omega | exact Nat.le_refl _⟩, ⟨by (with_reducible repeat (first | apply Kd.V_alloc | apply Kd.V_drewN | apply Kd.V_drew)); exact Kd.V_mono HO0.out (fun _ hk => ⟨hk.1.1, hk.1.2⟩)⟩, ⟨by (with_reducible repeat (first | apply Kd.V_alloc | apply Kd.V_drewN | apply Kd.V_drew)); exact Kd.V_mono HO1.out (fun _ hk => ⟨hk.1.1, hk.1.2⟩)⟩, ⟨by (with_reducible repeat (first | refine blk_drewN ?_ _ | refine blk_drew ?_ | refine blk_alloc ?_ _)); exact BK101.out⟩, ⟨bB1 HB GE101⟩⟩
  case rest =>
   clear HC6
   try clear c1
   try clear p2
   try clear c5
   try clear c5b0
   try clear c5b1
   try clear c6
   try clear c9
   try clear c13
   try clear c15
   try clear hcz17_0
   try clear hcz17_1
   try clear hcz17_2
   try clear hcz18_0
   try clear hcz18_1
   try clear hcz18_2
   try clear hcz19_0
   try clear hcz19_1
   try clear hcz19_2
   try clear hfz17_0
   try clear hfz17_1
   try clear hfz17_2
   try clear hfz18_0
   try clear hfz18_1
   try clear hfz18_2
   try clear hfz19_0
   try clear hfz19_1
   try clear hfz19_2
   obtain ⟨kq, x34_5, rfl, HA, HJ5, HO_0, HO_1, BK101, HB⟩ := hcut
   cases kq with
   | zero => exact absurd HA.out (by simp [plane_CheckPart.j0])
   | succ kj5 =>
    have H := HA.out
    clear HA
    simp only [plane_CheckPart.j0] at H
    by_cases c20 : x34_5 = true
    ·subst c20
     have H1 : (some 3) = some r := by rw [if_pos rfl] at H; exact H
     clear H
     have H := H1
     clear H1
     obtain rfl := Option.some.inj H
     go_wp2
     go_ret
     exact ⟨eB, bB1 HB GE101⟩
    ·replace c20 := Bool.eq_false_iff.mpr c20
     subst c20
     have H1 : ((plane_span.f a2_0 a2_1 a2_2 l0).bind fun bt109 => ((plane_span.f a2_0 a2_1 a2_2 l1).bind fun bt111 => (if bt109.2 > a2_2 then (some 16) else (if bt111.1 ≤ a2_2 then (some 16) else (some 0))))) = some r := by rw [if_neg (show ¬ (false = true) by decide)] at H; exact H
     clear H
     have H := H1
     clear H1
     replace H := Option.bind_eq_some_iff.mp H
     obtain ⟨⟨t109, t110⟩, A210, H⟩ := H
     replace H : ((plane_span.f a2_0 a2_1 a2_2 l1).bind fun bt111 => (if t110 > a2_2 then (some 16) else (if bt111.1 ≤ a2_2 then (some 16) else (some 0)))) = some r := H
     have A21 := Aside0.mk A210
     clear A210
     replace H := Option.bind_eq_some_iff.mp H
     obtain ⟨⟨t111, t112⟩, A220, H⟩ := H
     replace H : (if t110 > a2_2 then (some 16) else (if t111 ≤ a2_2 then (some 16) else (some 0))) = some r := H
     have A22 := Aside0.mk A220
     clear A220
     by_cases c23 : t110 > a2_2
     ·rw [if_pos c23] at H
      have c23b0 : decide (a2_2 < t110) = true := decide_eq_true c23
      clear c23
      obtain rfl := Option.some.inj H
      have hcz24_0 : wc.cell? ⟨gb101, 0, none⟩ = some (.int .i64 a2_0) := (blk_cell BK101.out 0).trans rfl
      have hcz24_1 : wc.cell? ⟨gb101, 1, none⟩ = some (.int .i64 a2_1) := (blk_cell BK101.out 1).trans rfl
      have hcz24_2 : wc.cell? ⟨gb101, 2, none⟩ = some (.int .i64 a2_2) := (blk_cell BK101.out 2).trans rfl
      have hfz24_0 := blk_frozen BK101.out 0
      have hfz24_1 := blk_frozen BK101.out 1
      have hfz24_2 := blk_frozen BK101.out 2
      go_wp2_with (first | ((with_reducible refine gate_callee (f := 104) rfl ?_); refine goesL_ (some 38) rfl rfl Try.func104 (by kernel_rfl) rfl #[.agg #[.int .i64 a2_0, .int .i64 a2_1, .int .i64 a2_2], .slice A0 l0.length c0] rfl mB ?_; (with_reducible refine (plane_span.calls a2_0 a2_1 a2_2 _ _ l0 t109 t110 _ ?side1 ?side2 A21.out).mono ?_); (case side1 => repeat (first | exact (Kd.V_reads' HO_0.out).2.2 | (with_reducible refine Kd.C_alloc ?_ _) | (with_reducible refine Kd.C_drewN ?_ _) | (with_reducible refine Kd.C_drew ?_))); (case side2 => exact (Kd.V_reads' HO_0.out).2.1); rintro e w25 ⟨rfl, hb⟩; refine ⟨_, rfl, ?_⟩; replace HO_0 := Aside0.mk (Kd.V_below (vB HO_0) hb); replace HO_1 := Aside0.mk (Kd.V_below (vB HO_1) hb); replace BK101 := Aside0.mk (blk_below (kB BK101) hb); replace HB := Aside0.mk (below_step (bB1 HB GE101) hb); (try clear hb); (try clear hb2); (try clear hk); (try clear hi); have hcz26_0 : w25.cell? ⟨gb101, 0, none⟩ = some (.int .i64 a2_0) := (blk_cell BK101.out 0).trans rfl; have hcz26_1 : w25.cell? ⟨gb101, 1, none⟩ = some (.int .i64 a2_1) := (blk_cell BK101.out 1).trans rfl; have hcz26_2 : w25.cell? ⟨gb101, 2, none⟩ = some (.int .i64 a2_2) := (blk_cell BK101.out 2).trans rfl; have hfz26_0 := blk_frozen BK101.out 0; have hfz26_1 := blk_frozen BK101.out 1; have hfz26_2 := blk_frozen BK101.out 2) | ((with_reducible refine gate_callee (f := 104) rfl ?_); refine goesL_ (some 44) rfl rfl Try.func104 (by kernel_rfl) rfl #[.agg #[.int .i64 a2_0, .int .i64 a2_1, .int .i64 a2_2], .slice A1 l1.length c1] rfl mB ?_; (with_reducible refine (plane_span.calls a2_0 a2_1 a2_2 _ _ l1 t111 t112 _ ?side1 ?side2 A22.out).mono ?_); (case side1 => repeat (first | exact (Kd.V_reads' HO_1.out).2.2 | (with_reducible refine Kd.C_alloc ?_ _) | (with_reducible refine Kd.C_drewN ?_ _) | (with_reducible refine Kd.C_drew ?_))); (case side2 => exact (Kd.V_reads' HO_1.out).2.1); rintro e w27 ⟨rfl, hb⟩; refine ⟨_, rfl, ?_⟩; replace HO_0 := Aside0.mk (Kd.V_below (vB HO_0) hb); replace HO_1 := Aside0.mk (Kd.V_below (vB HO_1) hb); replace BK101 := Aside0.mk (blk_below (kB BK101) hb); replace HB := Aside0.mk (below_step (bB1 HB GE101) hb); (try clear hb); (try clear hb2); (try clear hk); (try clear hi); have hcz28_0 : w27.cell? ⟨gb101, 0, none⟩ = some (.int .i64 a2_0) := (blk_cell BK101.out 0).trans rfl; have hcz28_1 : w27.cell? ⟨gb101, 1, none⟩ = some (.int .i64 a2_1) := (blk_cell BK101.out 1).trans rfl; have hcz28_2 : w27.cell? ⟨gb101, 2, none⟩ = some (.int .i64 a2_2) := (blk_cell BK101.out 2).trans rfl; have hfz28_0 := blk_frozen BK101.out 0; have hfz28_1 := blk_frozen BK101.out 1; have hfz28_2 := blk_frozen BK101.out 2))
      go_ret
      exact ⟨eB, bB1 HB GE101⟩
     ·rw [if_neg c23] at H
      have c23b0 : decide (a2_2 < t110) = false := decide_eq_false c23
      clear c23
      by_cases c29 : t111 ≤ a2_2
      ·rw [if_pos c29] at H
       have c29b0 : decide (t111 ≤ a2_2) = true := decide_eq_true c29
       clear c29
       obtain rfl := Option.some.inj H
       have hcz30_0 : wc.cell? ⟨gb101, 0, none⟩ = some (.int .i64 a2_0) := (blk_cell BK101.out 0).trans rfl
       have hcz30_1 : wc.cell? ⟨gb101, 1, none⟩ = some (.int .i64 a2_1) := (blk_cell BK101.out 1).trans rfl
       have hcz30_2 : wc.cell? ⟨gb101, 2, none⟩ = some (.int .i64 a2_2) := (blk_cell BK101.out 2).trans rfl
       have hfz30_0 := blk_frozen BK101.out 0
       have hfz30_1 := blk_frozen BK101.out 1
       have hfz30_2 := blk_frozen BK101.out 2
       go_wp2_with (first | ((with_reducible refine gate_callee (f := 104) rfl ?_); refine goesL_ (some 38) rfl rfl Try.func104 (by kernel_rfl) rfl #[.agg #[.int .i64 a2_0, .int .i64 a2_1, .int .i64 a2_2], .slice A0 l0.length c0] rfl mB ?_; (with_reducible refine (plane_span.calls a2_0 a2_1 a2_2 _ _ l0 t109 t110 _ ?side1 ?side2 A21.out).mono ?_); (case side1 => repeat (first | exact (Kd.V_reads' HO_0.out).2.2 | (with_reducible refine Kd.C_alloc ?_ _) | (with_reducible refine Kd.C_drewN ?_ _) | (with_reducible refine Kd.C_drew ?_))); (case side2 => exact (Kd.V_reads' HO_0.out).2.1); rintro e w31 ⟨rfl, hb⟩; refine ⟨_, rfl, ?_⟩; replace HO_0 := Aside0.mk (Kd.V_below (vB HO_0) hb); replace HO_1 := Aside0.mk (Kd.V_below (vB HO_1) hb); replace BK101 := Aside0.mk (blk_below (kB BK101) hb); replace HB := Aside0.mk (below_step (bB1 HB GE101) hb); (try clear hb); (try clear hb2); (try clear hk); (try clear hi); have hcz32_0 : w31.cell? ⟨gb101, 0, none⟩ = some (.int .i64 a2_0) := (blk_cell BK101.out 0).trans rfl; have hcz32_1 : w31.cell? ⟨gb101, 1, none⟩ = some (.int .i64 a2_1) := (blk_cell BK101.out 1).trans rfl; have hcz32_2 : w31.cell? ⟨gb101, 2, none⟩ = some (.int .i64 a2_2) := (blk_cell BK101.out 2).trans rfl; have hfz32_0 := blk_frozen BK101.out 0; have hfz32_1 := blk_frozen BK101.out 1; have hfz32_2 := blk_frozen BK101.out 2) | ((with_reducible refine gate_callee (f := 104) rfl ?_); refine goesL_ (some 44) rfl rfl Try.func104 (by kernel_rfl) rfl #[.agg #[.int .i64 a2_0, .int .i64 a2_1, .int .i64 a2_2], .slice A1 l1.length c1] rfl mB ?_; (with_reducible refine (plane_span.calls a2_0 a2_1 a2_2 _ _ l1 t111 t112 _ ?side1 ?side2 A22.out).mono ?_); (case side1 => repeat (first | exact (Kd.V_reads' HO_1.out).2.2 | (with_reducible refine Kd.C_alloc ?_ _) | (with_reducible refine Kd.C_drewN ?_ _) | (with_reducible refine Kd.C_drew ?_))); (case side2 => exact (Kd.V_reads' HO_1.out).2.1); rintro e w33 ⟨rfl, hb⟩; refine ⟨_, rfl, ?_⟩; replace HO_0 := Aside0.mk (Kd.V_below (vB HO_0) hb); replace HO_1 := Aside0.mk (Kd.V_below (vB HO_1) hb); replace BK101 := Aside0.mk (blk_below (kB BK101) hb); replace HB := Aside0.mk (below_step (bB1 HB GE101) hb); (try clear hb); (try clear hb2); (try clear hk); (try clear hi); have hcz34_0 : w33.cell? ⟨gb101, 0, none⟩ = some (.int .i64 a2_0) := (blk_cell BK101.out 0).trans rfl; have hcz34_1 : w33.cell? ⟨gb101, 1, none⟩ = some (.int .i64 a2_1) := (blk_cell BK101.out 1).trans rfl; have hcz34_2 : w33.cell? ⟨gb101, 2, none⟩ = some (.int .i64 a2_2) := (blk_cell BK101.out 2).trans rfl; have hfz34_0 := blk_frozen BK101.out 0; have hfz34_1 := blk_frozen BK101.out 1; have hfz34_2 := blk_frozen BK101.out 2))
       go_ret
       exact ⟨eB, bB1 HB GE101⟩
      ·rw [if_neg c29] at H
       have c29b0 : decide (t111 ≤ a2_2) = false := decide_eq_false c29
       clear c29
       obtain rfl := Option.some.inj H
       have hcz35_0 : wc.cell? ⟨gb101, 0, none⟩ = some (.int .i64 a2_0) := (blk_cell BK101.out 0).trans rfl
       have hcz35_1 : wc.cell? ⟨gb101, 1, none⟩ = some (.int .i64 a2_1) := (blk_cell BK101.out 1).trans rfl
       have hcz35_2 : wc.cell? ⟨gb101, 2, none⟩ = some (.int .i64 a2_2) := (blk_cell BK101.out 2).trans rfl
       have hfz35_0 := blk_frozen BK101.out 0
       have hfz35_1 := blk_frozen BK101.out 1
       have hfz35_2 := blk_frozen BK101.out 2
       go_wp2_with (first | ((with_reducible refine gate_callee (f := 104) rfl ?_); refine goesL_ (some 38) rfl rfl Try.func104 (by kernel_rfl) rfl #[.agg #[.int .i64 a2_0, .int .i64 a2_1, .int .i64 a2_2], .slice A0 l0.length c0] rfl mB ?_; (with_reducible refine (plane_span.calls a2_0 a2_1 a2_2 _ _ l0 t109 t110 _ ?side1 ?side2 A21.out).mono ?_); (case side1 => repeat (first | exact (Kd.V_reads' HO_0.out).2.2 | (with_reducible refine Kd.C_alloc ?_ _) | (with_reducible refine Kd.C_drewN ?_ _) | (with_reducible refine Kd.C_drew ?_))); (case side2 => exact (Kd.V_reads' HO_0.out).2.1); rintro e w36 ⟨rfl, hb⟩; refine ⟨_, rfl, ?_⟩; replace HO_0 := Aside0.mk (Kd.V_below (vB HO_0) hb); replace HO_1 := Aside0.mk (Kd.V_below (vB HO_1) hb); replace BK101 := Aside0.mk (blk_below (kB BK101) hb); replace HB := Aside0.mk (below_step (bB1 HB GE101) hb); (try clear hb); (try clear hb2); (try clear hk); (try clear hi); have hcz37_0 : w36.cell? ⟨gb101, 0, none⟩ = some (.int .i64 a2_0) := (blk_cell BK101.out 0).trans rfl; have hcz37_1 : w36.cell? ⟨gb101, 1, none⟩ = some (.int .i64 a2_1) := (blk_cell BK101.out 1).trans rfl; have hcz37_2 : w36.cell? ⟨gb101, 2, none⟩ = some (.int .i64 a2_2) := (blk_cell BK101.out 2).trans rfl; have hfz37_0 := blk_frozen BK101.out 0; have hfz37_1 := blk_frozen BK101.out 1; have hfz37_2 := blk_frozen BK101.out 2) | ((with_reducible refine gate_callee (f := 104) rfl ?_); refine goesL_ (some 44) rfl rfl Try.func104 (by kernel_rfl) rfl #[.agg #[.int .i64 a2_0, .int .i64 a2_1, .int .i64 a2_2], .slice A1 l1.length c1] rfl mB ?_; (with_reducible refine (plane_span.calls a2_0 a2_1 a2_2 _ _ l1 t111 t112 _ ?side1 ?side2 A22.out).mono ?_); (case side1 => repeat (first | exact (Kd.V_reads' HO_1.out).2.2 | (with_reducible refine Kd.C_alloc ?_ _) | (with_reducible refine Kd.C_drewN ?_ _) | (with_reducible refine Kd.C_drew ?_))); (case side2 => exact (Kd.V_reads' HO_1.out).2.1); rintro e w38 ⟨rfl, hb⟩; refine ⟨_, rfl, ?_⟩; replace HO_0 := Aside0.mk (Kd.V_below (vB HO_0) hb); replace HO_1 := Aside0.mk (Kd.V_below (vB HO_1) hb); replace BK101 := Aside0.mk (blk_below (kB BK101) hb); replace HB := Aside0.mk (below_step (bB1 HB GE101) hb); (try clear hb); (try clear hb2); (try clear hk); (try clear hi); have hcz39_0 : w38.cell? ⟨gb101, 0, none⟩ = some (.int .i64 a2_0) := (blk_cell BK101.out 0).trans rfl; have hcz39_1 : w38.cell? ⟨gb101, 1, none⟩ = some (.int .i64 a2_1) := (blk_cell BK101.out 1).trans rfl; have hcz39_2 : w38.cell? ⟨gb101, 2, none⟩ = some (.int .i64 a2_2) := (blk_cell BK101.out 2).trans rfl; have hfz39_0 := blk_frozen BK101.out 0; have hfz39_1 := blk_frozen BK101.out 1; have hfz39_2 := blk_frozen BK101.out 2))
       go_ret
       exact ⟨eB, bB1 HB GE101⟩
 ·rw [if_neg c5] at H
  have c5b0 : (t105 == 0) = false := beq_eq_false_iff_ne.mpr c5
  have c5b1 : (t105 != 0) = true := bne_iff_ne.mpr c5
  obtain rfl := Option.some.inj H
  go_enter Try.func62, Try.ntmps62
  go_wp2_with (first | ((with_reducible refine gate_dst (N := 5) rfl ?_); refine boxE (N := 5) (cs := #[.int .i64 a2_0, .int .i64 a2_1, .int .i64 a2_2]) (t := 75) ?_; intro gb101 hg w40 hbox hb; replace HO0 := Aside0.mk (Kd.V_below (Kd.V_elderB (vB HO0) gb101 (Nat.le_of_eq hg.symm)) hb); replace HO1 := Aside0.mk (Kd.V_below (Kd.V_elderB (vB HO1) gb101 (Nat.le_of_eq hg.symm)) hb); have n2_ := Aside0.mk (below_step (bB0 HB) hb); have BK101 := Aside0.mk (hbox); have GW101 := Aside0.mk (szB hg (below_size (bB0 HB))); have GE101 := GW101; clear HB; have HB := n2_; clear n2_; clear hb hbox hg) | ((with_reducible refine gate_dst (N := 14) rfl ?_); refine Kd.N_lit (Kd.slice 23 k23) _ 53 ?hg (N' := 14) ?hd (xs := ([l0, l1] : List (List (S23)))) (inner := [.slice A0 l0.length c0, .slice A1 l1.length c1]) (ok := (fun k_ => ((P0_ k_ ∨ P1_ k_) ∨ w.heap.size ≤ k_) ∧ k_ ≠ gb101)) (okp := (fun k_ => ((P0_ k_ ∨ P1_ k_) ∨ w.heap.size ≤ k_) ∧ k_ ≠ gb101)) ?hr ?hp (fun _ hk => hk) ((show ∀ k_, w40.heap.size ≤ k_ → (fun k_ => ((P0_ k_ ∨ P1_ k_) ∨ w.heap.size ≤ k_) ∧ k_ ≠ gb101) k_ from fun k_ hk => ⟨(.inr (Nat.le_trans (below_size (bB1 HB GE101)) hk)), Kd.freshB (kB BK101) k_ hk⟩) _ (Nat.le_refl _)) (Below.refl _ _) (Nat.le_refl _) (by simp) ?_; (case hd => rfl); (case hg => rfl); (case hr => first | (go_simp; done) | (go_simp; rfl)); (case hp => exact (Reps.one (show Kd.FK (Kd.slice 23 k23) _ _ l0 [.slice A0 l0.length c0] from (Kd.FK_slice_mk (Kd.V_reads' (Kd.V_mono (ok' := (fun k_ => ((P0_ k_ ∨ P1_ k_) ∨ w.heap.size ≤ k_) ∧ k_ ≠ gb101)) (HO0.out) (fun k_ hk => ⟨hk.1, hk.2⟩))).2.1 (Kd.V_F (Kd.V_mono (ok' := (fun k_ => ((P0_ k_ ∨ P1_ k_) ∨ w.heap.size ≤ k_) ∧ k_ ≠ gb101)) (HO0.out) (fun k_ hk => ⟨hk.1, hk.2⟩))))) (Reps.one (show Kd.FK (Kd.slice 23 k23) _ _ l1 [.slice A1 l1.length c1] from (Kd.FK_slice_mk (Kd.V_reads' (Kd.V_mono (ok' := (fun k_ => ((P0_ k_ ∨ P1_ k_) ∨ w.heap.size ≤ k_) ∧ k_ ≠ gb101)) (HO1.out) (fun k_ hk => ⟨hk.1, hk.2⟩))).2.1 (Kd.V_F (Kd.V_mono (ok' := (fun k_ => ((P0_ k_ ∨ P1_ k_) ∨ w.heap.size ≤ k_) ∧ k_ ≠ gb101)) (HO1.out) (fun k_ hk => ⟨hk.1, hk.2⟩))))) (Reps.none _ _)))); intro v103 w41 ho42 hb hg_ hnew_; clear hg_ hnew_; (first | rw [← Ny102.out] at ho42 | (simp only [Int.reduceToNat] at ho42; rw [← Ny102.out] at ho42)); replace HO0 := Aside0.mk (Kd.V_elder' (vB HO0) (Kd.N_base ho42) hb); replace HO1 := Aside0.mk (Kd.V_elder' (vB HO1) (Kd.N_base ho42) hb); have HO104 := Aside0.mk (Kd.N_lower ho42 (below_size (bB1 HB GE101))); replace BK101 := Aside0.mk (blk_below (kB BK101) hb); replace HB := Aside0.mk (below_step (bB1 HB GE101) hb); clear hb ho42; obtain ⟨Ao43, co43, eo43⟩ := Kd.N_slice HO104.out; subst eo43) | ((with_reducible refine gate_callee (f := 94) rfl ?_); refine goesL_ (some 15) rfl rfl Try.func94 (by kernel_rfl) rfl #[.slice Ao43 y102.length co43] rfl mB ?_; (with_reducible refine (plane_checkHulls.calls _ _ y102 t105 _ ?side1 ?side2 A4.out).mono ?_); (case side1 => repeat (first | exact (Kd.N_reads' HO104.out).2.2 | (with_reducible refine Kd.C_alloc ?_ _) | (with_reducible refine Kd.C_drewN ?_ _) | (with_reducible refine Kd.C_drew ?_))); (case side2 => exact (Kd.N_reads' HO104.out).2.1); rintro e w44 ⟨rfl, hb⟩; refine ⟨_, rfl, ?_⟩; replace HO0 := Aside0.mk (Kd.V_below (vB HO0) hb); replace HO1 := Aside0.mk (Kd.V_below (vB HO1) hb); replace HO104 := Aside0.mk (Kd.N_below (by (with_reducible repeat (first | apply Kd.N_alloc | apply Kd.N_drewN | apply Kd.N_drew)); exact HO104.out) hb); replace BK101 := Aside0.mk (blk_below (kB BK101) hb); replace HB := Aside0.mk (below_step (bB1 HB GE101) hb); (try clear hb); (try clear hb2); (try clear hk); (try clear hi)))
  go_ret
  exact ⟨eB, bB1 HB GE101⟩
def gooseneckref01_CheckPart.j0 : Nat → List (S23) → List (S23) → Bool → Int → Int → Int → Option (Int)
 | 0, _, _, _, _, _, _ => none
 | k + 1, x0, x1, x29, x102000, x102001, x102002 => if x29 = true then (some 3) else ((gooseneckref01_parts.f k x0 x1 x102000 x102001 x102002).bind fun t106 => (if t106 = true then (some 0) else (some 16)))
def gooseneckref01_CheckPart.f (k : Nat) (l0 : List (S23)) (l1 : List (S23)) (a2_0 : Int) (a2_1 : Int) (a2_2 : Int) : Option (Int) := (gooseneckref01_hulls.f k l0 l1).bind fun t102 => (if t102 = 0 then ((gooseneckref01_In.f a2_0 (-67108864) 67108864).bind fun t103 => (if t103 = true then ((gooseneckref01_In.f a2_1 (-67108864) 67108864).bind fun t104 => (if t104 = true then ((gooseneckref01_In.f a2_2 (-4503599627370496) 4503599627370496).bind fun t105 => (gooseneckref01_CheckPart.j0 k l0 l1 (!t105) a2_0 a2_1 a2_2)) else (gooseneckref01_CheckPart.j0 k l0 l1 true a2_0 a2_1 a2_2))) else (gooseneckref01_CheckPart.j0 k l0 l1 true a2_0 a2_1 a2_2))) else (some t102))
theorem gooseneckref01_CheckPart.mono_l : ∀ k, (∀ y0 y1 y2 y3 y4 y5, LeO (gooseneckref01_CheckPart.j0 k y0 y1 y2 y3 y4 y5) (gooseneckref01_CheckPart.j0 (k + 1) y0 y1 y2 y3 y4 y5))
 | 0 => fun _ _ _ _ _ _ r h => by simp [gooseneckref01_CheckPart.j0] at h
 | k + 1 => by
  have ih0 := gooseneckref01_CheckPart.mono_l k
  ·intro y0 y1 y2 y3 y4 y5
   unfold gooseneckref01_CheckPart.j0
   repeat' first
   | (with_reducible exact ih0 _ _ _ _ _ _)
   | (with_reducible exact gooseneckref01_hulls.mono _ _ _)
   | (with_reducible exact gooseneckref01_parts.mono _ _ _ _ _ _)
   | (with_reducible exact LeO.refl _)
   | (with_reducible exact LeO.none _)
   | (with_reducible refine LeO.ite ?_ ?_)
   | (with_reducible refine LeO.bind ?_ (fun _ => ?_))
   | exact ih0 _ _ _ _ _ _
   | exact gooseneckref01_hulls.mono _ _ _
   | exact gooseneckref01_parts.mono _ _ _ _ _ _
   | exact LeO.none _
   | refine LeO.ite ?_ ?_
   | refine LeO.bind ?_ (fun _ => ?_)
theorem gooseneckref01_CheckPart.mono : ∀ a0 a1 a2 a3 a4 k, LeO (gooseneckref01_CheckPart.f k a0 a1 a2 a3 a4) (gooseneckref01_CheckPart.f (k + 1) a0 a1 a2 a3 a4) := by
 intro a0 a1 a2 a3 a4 k
 have ih0 := gooseneckref01_CheckPart.mono_l k
 unfold gooseneckref01_CheckPart.f
 repeat' first
   | (with_reducible exact ih0 _ _ _ _ _ _)
   | (with_reducible exact gooseneckref01_hulls.mono _ _ _)
   | (with_reducible exact gooseneckref01_parts.mono _ _ _ _ _ _)
   | (with_reducible exact LeO.refl _)
   | (with_reducible exact LeO.none _)
   | (with_reducible refine LeO.ite ?_ ?_)
   | (with_reducible refine LeO.bind ?_ (fun _ => ?_))
   | exact ih0 _ _ _ _ _ _
   | exact gooseneckref01_hulls.mono _ _ _
   | exact gooseneckref01_parts.mono _ _ _ _ _ _
   | exact LeO.none _
   | refine LeO.ite ?_ ?_
   | refine LeO.bind ?_ (fun _ => ?_)
set_option maxHeartbeats 8000000 in
set_option maxRecDepth 100000 in
theorem gooseneckref01_CheckPart.calls (k : Nat) (A0 : Option Addr) (c0 : Nat) (l0 : List (S23)) (A1 : Option Addr) (c1 : Nat) (l1 : List (S23)) (a2_0 : Int) (a2_1 : Int) (a2_2 : Int) (r : Int) (w : World) (hr0 : Kd.C k23 w A0 l0.length l0) (hc0 : l0.length ≤ c0) (hr1 : Kd.C k23 w A1 l1.length l1) (hc1 : l1.length ≤ c1) (h : gooseneckref01_CheckPart.f k l0 l1 a2_0 a2_1 a2_2 = some r) :
  Calls Try.prog 63 #[.slice A0 l0.length c0, .slice A1 l1.length c1, .agg #[.int .i64 a2_0, .int .i64 a2_1, .int .i64 a2_2]] w fun e w' => e = .returned (.int .i64 r) ∧ Below w.heap.size w w' := by
 have hu75 := Try.underlying75
 have HR0 := Aside0.mk hr0
 have HC0 := Aside0.mk hc0
 clear hr0 hc0
 have HR1 := Aside0.mk hr1
 have HC1 := Aside0.mk hc1
 clear hr1 hc1
 have HB := Aside0.mk (Below.refl w.heap.size w)
 have H : ((gooseneckref01_hulls.f k l0 l1).bind fun t102 => (if t102 = 0 then ((gooseneckref01_In.f a2_0 (-67108864) 67108864).bind fun t103 => (if t103 = true then ((gooseneckref01_In.f a2_1 (-67108864) 67108864).bind fun t104 => (if t104 = true then ((gooseneckref01_In.f a2_2 (-4503599627370496) 4503599627370496).bind fun t105 => (gooseneckref01_CheckPart.j0 k l0 l1 (!t105) a2_0 a2_1 a2_2)) else (gooseneckref01_CheckPart.j0 k l0 l1 true a2_0 a2_1 a2_2))) else (gooseneckref01_CheckPart.j0 k l0 l1 true a2_0 a2_1 a2_2))) else (some t102))) = some r := h
 clear h
 replace H := Option.bind_eq_some_iff.mp H
 obtain ⟨t102, A40, H⟩ := H
 replace H : (if t102 = 0 then ((gooseneckref01_In.f a2_0 (-67108864) 67108864).bind fun t103 => (if t103 = true then ((gooseneckref01_In.f a2_1 (-67108864) 67108864).bind fun t104 => (if t104 = true then ((gooseneckref01_In.f a2_2 (-4503599627370496) 4503599627370496).bind fun t105 => (gooseneckref01_CheckPart.j0 k l0 l1 (!t105) a2_0 a2_1 a2_2)) else (gooseneckref01_CheckPart.j0 k l0 l1 true a2_0 a2_1 a2_2))) else (gooseneckref01_CheckPart.j0 k l0 l1 true a2_0 a2_1 a2_2))) else (some t102)) = some r := H
 have A4 := Aside0.mk A40
 clear A40
 by_cases c5 : t102 = 0
 ·rw [if_pos c5] at H
  have c5b0 : (t102 == 0) = true := beq_iff_eq.mpr c5
  have c5b1 : (t102 != 0) = false := bne_eq_false_iff_eq.mpr c5
  clear c5
  have HC6 := Aside0.mk H
  clear H
  go_enter Try.func63, Try.ntmps63
  go_upto_region 4 with (first | ((with_reducible refine gate_dst (N := 5) rfl ?_); refine boxE (N := 5) (cs := #[.int .i64 a2_0, .int .i64 a2_1, .int .i64 a2_2]) (t := 75) ?_; intro gb101 hg w7 hbox hb; have n0_ := Aside0.mk (below_step (bB0 HB) hb); have BK101 := Aside0.mk (hbox); have GW101 := Aside0.mk (szB hg (below_size (bB0 HB))); have GE101 := GW101; clear HB; have HB := n0_; clear n0_; clear hb hbox hg) | ((with_reducible refine gate_callee (f := 97) rfl ?_); refine goesL_ (some 10) rfl rfl Try.func97 (by kernel_rfl) rfl #[.slice A0 l0.length c0, .slice A1 l1.length c1] rfl mB ?_; (with_reducible refine (gooseneckref01_hulls.calls k _ _ l0 _ _ l1 t102 _ ?side1 ?side2 ?side3 ?side4 A4.out).mono ?_); (case side1 => exact cB HR0 HB); (case side2 => exact HC0.out); (case side3 => exact cB HR1 HB); (case side4 => exact HC1.out); rintro e w8 ⟨rfl, hb⟩; refine ⟨_, rfl, ?_⟩; replace BK101 := Aside0.mk (blk_below (kB BK101) hb); replace HB := Aside0.mk (below_step (bB1 HB GE101) hb); (try clear hb); (try clear hb2); (try clear hk); (try clear hi)))
  (try simp only [Act.put, List.setIfInBounds_toArray, List.set_cons_zero, List.set_cons_succ])
  go_cut [29] (fun v29 wc => ∃ (kq : Nat) (x29_5 : Bool), v29 = .bool x29_5 ∧ Aside0 (gooseneckref01_CheckPart.j0 kq l0 l1 x29_5 a2_0 a2_1 a2_2 = some r) ∧ Aside0 (kq ≤ k) ∧ Aside0 (wc.heap[gb101]? = some (.cells #[.int .i64 a2_0, .int .i64 a2_1, .int .i64 a2_2] 75 (0, 0))) ∧ Aside0 (Below w.heap.size w wc))
  case first =>
   have H := HC6.out
   clear HC6
   replace H := Option.bind_eq_some_iff.mp H
   obtain ⟨t103, A90, H⟩ := H
   replace H : (if t103 = true then ((gooseneckref01_In.f a2_1 (-67108864) 67108864).bind fun t104 => (if t104 = true then ((gooseneckref01_In.f a2_2 (-4503599627370496) 4503599627370496).bind fun t105 => (gooseneckref01_CheckPart.j0 k l0 l1 (!t105) a2_0 a2_1 a2_2)) else (gooseneckref01_CheckPart.j0 k l0 l1 true a2_0 a2_1 a2_2))) else (gooseneckref01_CheckPart.j0 k l0 l1 true a2_0 a2_1 a2_2)) = some r := H
   have A9 := Aside0.mk A90
   clear A90
   by_cases c10 : t103 = true
   ·subst c10
    have H1 : ((gooseneckref01_In.f a2_1 (-67108864) 67108864).bind fun t104 => (if t104 = true then ((gooseneckref01_In.f a2_2 (-4503599627370496) 4503599627370496).bind fun t105 => (gooseneckref01_CheckPart.j0 k l0 l1 (!t105) a2_0 a2_1 a2_2)) else (gooseneckref01_CheckPart.j0 k l0 l1 true a2_0 a2_1 a2_2))) = some r := by rw [if_pos rfl] at H; exact H
    clear H
    have H := H1
    clear H1
    replace H := Option.bind_eq_some_iff.mp H
    obtain ⟨t104, A110, H⟩ := H
    replace H : (if t104 = true then ((gooseneckref01_In.f a2_2 (-4503599627370496) 4503599627370496).bind fun t105 => (gooseneckref01_CheckPart.j0 k l0 l1 (!t105) a2_0 a2_1 a2_2)) else (gooseneckref01_CheckPart.j0 k l0 l1 true a2_0 a2_1 a2_2)) = some r := H
    have A11 := Aside0.mk A110
    clear A110
    by_cases c12 : t104 = true
    ·subst c12
     have H1 : ((gooseneckref01_In.f a2_2 (-4503599627370496) 4503599627370496).bind fun t105 => (gooseneckref01_CheckPart.j0 k l0 l1 (!t105) a2_0 a2_1 a2_2)) = some r := by rw [if_pos rfl] at H; exact H
     clear H
     have H := H1
     clear H1
     replace H := Option.bind_eq_some_iff.mp H
     obtain ⟨t105, A130, H⟩ := H
     replace H : (gooseneckref01_CheckPart.j0 k l0 l1 (!t105) a2_0 a2_1 a2_2) = some r := H
     have A13 := Aside0.mk A130
     clear A130
     have H' := Aside0.mk H
     clear H
     have hcz14_0 : w8.cell? ⟨gb101, 0, none⟩ = some (.int .i64 a2_0) := (blk_cell BK101.out 0).trans rfl
     have hcz14_1 : w8.cell? ⟨gb101, 1, none⟩ = some (.int .i64 a2_1) := (blk_cell BK101.out 1).trans rfl
     have hcz14_2 : w8.cell? ⟨gb101, 2, none⟩ = some (.int .i64 a2_2) := (blk_cell BK101.out 2).trans rfl
     have hfz14_0 := blk_frozen BK101.out 0
     have hfz14_1 := blk_frozen BK101.out 1
     have hfz14_2 := blk_frozen BK101.out 2
     go_wp2_with (first | ((with_reducible refine gate_callee (f := 70) rfl ?_); refine goesL_ (some 16) rfl rfl Try.func70 (by kernel_rfl) rfl #[.int .i64 a2_0, .int .i64 (-67108864), .int .i64 67108864] rfl mB ?_; (with_reducible refine (gooseneckref01_In.calls a2_0 (-67108864) 67108864 true _ A9.out).mono ?_); rintro e w' ⟨rfl, ⟨nd, rfl⟩⟩; refine ⟨_, rfl, ?_⟩) | (go_at_call 70; (with_reducible refine (gooseneckref01_In.calls a2_1 (-67108864) 67108864 true _ A11.out).mono ?_); rintro e w' ⟨rfl, ⟨nd, rfl⟩⟩) | (go_at_call 70; (with_reducible refine (gooseneckref01_In.calls a2_2 (-4503599627370496) 4503599627370496 t105 _ A13.out).mono ?_); rintro e w' ⟨rfl, ⟨nd, rfl⟩⟩))
     go_meet
     case rel => exact ⟨_, (!t105), sB, H', ⟨by first | omega | exact Nat.le_refl _⟩, ⟨by (with_reducible repeat (first | refine blk_drewN ?_ _ | refine blk_drew ?_ | refine blk_alloc ?_ _)); exact BK101.out⟩, ⟨bB1 HB GE101⟩⟩
    ·replace c12 := Bool.eq_false_iff.mpr c12
     subst c12
     have H1 : (gooseneckref01_CheckPart.j0 k l0 l1 true a2_0 a2_1 a2_2) = some r := by rw [if_neg (show ¬ (false = true) by decide)] at H; exact H
     clear H
     have H := H1
     clear H1
     have H' := Aside0.mk H
     clear H
     have hcz15_0 : w8.cell? ⟨gb101, 0, none⟩ = some (.int .i64 a2_0) := (blk_cell BK101.out 0).trans rfl
     have hcz15_1 : w8.cell? ⟨gb101, 1, none⟩ = some (.int .i64 a2_1) := (blk_cell BK101.out 1).trans rfl
     have hcz15_2 : w8.cell? ⟨gb101, 2, none⟩ = some (.int .i64 a2_2) := (blk_cell BK101.out 2).trans rfl
     have hfz15_0 := blk_frozen BK101.out 0
     have hfz15_1 := blk_frozen BK101.out 1
     have hfz15_2 := blk_frozen BK101.out 2
     go_wp2_with (first | ((with_reducible refine gate_callee (f := 70) rfl ?_); refine goesL_ (some 16) rfl rfl Try.func70 (by kernel_rfl) rfl #[.int .i64 a2_0, .int .i64 (-67108864), .int .i64 67108864] rfl mB ?_; (with_reducible refine (gooseneckref01_In.calls a2_0 (-67108864) 67108864 true _ A9.out).mono ?_); rintro e w' ⟨rfl, ⟨nd, rfl⟩⟩; refine ⟨_, rfl, ?_⟩) | (go_at_call 70; (with_reducible refine (gooseneckref01_In.calls a2_1 (-67108864) 67108864 false _ A11.out).mono ?_); rintro e w' ⟨rfl, ⟨nd, rfl⟩⟩))
     go_meet
     case rel => exact ⟨_, (true), sB, H', ⟨by first | omega | exact Nat.le_refl _⟩, ⟨by (with_reducible repeat (first | refine blk_drewN ?_ _ | refine blk_drew ?_ | refine blk_alloc ?_ _)); exact BK101.out⟩, ⟨bB1 HB GE101⟩⟩
   ·replace c10 := Bool.eq_false_iff.mpr c10
    subst c10
    have H1 : (gooseneckref01_CheckPart.j0 k l0 l1 true a2_0 a2_1 a2_2) = some r := by rw [if_neg (show ¬ (false = true) by decide)] at H; exact H
    clear H
    have H := H1
    clear H1
    have H' := Aside0.mk H
    clear H
    have hcz16_0 : w8.cell? ⟨gb101, 0, none⟩ = some (.int .i64 a2_0) := (blk_cell BK101.out 0).trans rfl
    have hcz16_1 : w8.cell? ⟨gb101, 1, none⟩ = some (.int .i64 a2_1) := (blk_cell BK101.out 1).trans rfl
    have hcz16_2 : w8.cell? ⟨gb101, 2, none⟩ = some (.int .i64 a2_2) := (blk_cell BK101.out 2).trans rfl
    have hfz16_0 := blk_frozen BK101.out 0
    have hfz16_1 := blk_frozen BK101.out 1
    have hfz16_2 := blk_frozen BK101.out 2
    go_wp2_with (first | ((with_reducible refine gate_callee (f := 70) rfl ?_); refine goesL_ (some 16) rfl rfl Try.func70 (by kernel_rfl) rfl #[.int .i64 a2_0, .int .i64 (-67108864), .int .i64 67108864] rfl mB ?_; (with_reducible refine (gooseneckref01_In.calls a2_0 (-67108864) 67108864 false _ A9.out).mono ?_); rintro e w' ⟨rfl, ⟨nd, rfl⟩⟩; refine ⟨_, rfl, ?_⟩))
    go_meet
    case rel => exact ⟨_, (true), sB, H', ⟨by first | omega | exact Nat.le_refl _⟩, ⟨by (with_reducible repeat (first | refine blk_drewN ?_ _ | refine blk_drew ?_ | refine blk_alloc ?_ _)); exact BK101.out⟩, ⟨bB1 HB GE101⟩⟩
  case rest =>
   clear HC6
   try clear c1
   try clear p2
   try clear c5
   try clear c5b0
   try clear c5b1
   try clear c6
   try clear c7
   try clear c9
   try clear c10
   try clear c12
   try clear hcz14_0
   try clear hcz14_1
   try clear hcz14_2
   try clear hcz15_0
   try clear hcz15_1
   try clear hcz15_2
   try clear hcz16_0
   try clear hcz16_1
   try clear hcz16_2
   try clear hfz14_0
   try clear hfz14_1
   try clear hfz14_2
   try clear hfz15_0
   try clear hfz15_1
   try clear hfz15_2
   try clear hfz16_0
   try clear hfz16_1
   try clear hfz16_2
   obtain ⟨kq, x29_5, rfl, HA, HJ5, BK101, HB⟩ := hcut
   cases kq with
   | zero => exact absurd HA.out (by simp [gooseneckref01_CheckPart.j0])
   | succ kj5 =>
    have H := HA.out
    clear HA
    simp only [gooseneckref01_CheckPart.j0] at H
    by_cases c17 : x29_5 = true
    ·subst c17
     have H1 : (some 3) = some r := by rw [if_pos rfl] at H; exact H
     clear H
     have H := H1
     clear H1
     obtain rfl := Option.some.inj H
     go_wp2
     go_ret
     exact ⟨eB, bB1 HB GE101⟩
    ·replace c17 := Bool.eq_false_iff.mpr c17
     subst c17
     have H1 : ((gooseneckref01_parts.f kj5 l0 l1 a2_0 a2_1 a2_2).bind fun t106 => (if t106 = true then (some 0) else (some 16))) = some r := by rw [if_neg (show ¬ (false = true) by decide)] at H; exact H
     clear H
     have H := H1
     clear H1
     replace H := Option.bind_eq_some_iff.mp H
     obtain ⟨t106, A180, H⟩ := H
     replace H : (if t106 = true then (some 0) else (some 16)) = some r := H
     have A18 := Aside0.mk A180
     clear A180
     by_cases c19 : t106 = true
     ·subst c19
      have H1 : (some 0) = some r := by rw [if_pos rfl] at H; exact H
      clear H
      have H := H1
      clear H1
      obtain rfl := Option.some.inj H
      have hcz20_0 : wc.cell? ⟨gb101, 0, none⟩ = some (.int .i64 a2_0) := (blk_cell BK101.out 0).trans rfl
      have hcz20_1 : wc.cell? ⟨gb101, 1, none⟩ = some (.int .i64 a2_1) := (blk_cell BK101.out 1).trans rfl
      have hcz20_2 : wc.cell? ⟨gb101, 2, none⟩ = some (.int .i64 a2_2) := (blk_cell BK101.out 2).trans rfl
      have hfz20_0 := blk_frozen BK101.out 0
      have hfz20_1 := blk_frozen BK101.out 1
      have hfz20_2 := blk_frozen BK101.out 2
      go_wp2_with (first | ((with_reducible refine gate_callee (f := 105) rfl ?_); refine goesL_ (some 33) rfl rfl Try.func105 (by kernel_rfl) rfl #[.slice A0 l0.length c0, .slice A1 l1.length c1, .agg #[.int .i64 a2_0, .int .i64 a2_1, .int .i64 a2_2]] rfl mB ?_; (with_reducible refine (gooseneckref01_parts.calls kj5 _ _ l0 _ _ l1 a2_0 a2_1 a2_2 true _ ?side1 ?side2 ?side3 ?side4 A18.out).mono ?_); (case side1 => exact cB HR0 HB); (case side2 => exact HC0.out); (case side3 => exact cB HR1 HB); (case side4 => exact HC1.out); rintro e w21 ⟨rfl, hb⟩; refine ⟨_, rfl, ?_⟩; replace BK101 := Aside0.mk (blk_below (kB BK101) hb); replace HB := Aside0.mk (below_step (bB1 HB GE101) hb); (try clear hb); (try clear hb2); (try clear hk); (try clear hi)))
      go_ret
      exact ⟨eB, bB1 HB GE101⟩
     ·replace c19 := Bool.eq_false_iff.mpr c19
      subst c19
      have H1 : (some 16) = some r := by rw [if_neg (show ¬ (false = true) by decide)] at H; exact H
      clear H
      have H := H1
      clear H1
      obtain rfl := Option.some.inj H
      have hcz22_0 : wc.cell? ⟨gb101, 0, none⟩ = some (.int .i64 a2_0) := (blk_cell BK101.out 0).trans rfl
      have hcz22_1 : wc.cell? ⟨gb101, 1, none⟩ = some (.int .i64 a2_1) := (blk_cell BK101.out 1).trans rfl
      have hcz22_2 : wc.cell? ⟨gb101, 2, none⟩ = some (.int .i64 a2_2) := (blk_cell BK101.out 2).trans rfl
      have hfz22_0 := blk_frozen BK101.out 0
      have hfz22_1 := blk_frozen BK101.out 1
      have hfz22_2 := blk_frozen BK101.out 2
      go_wp2_with (first | ((with_reducible refine gate_callee (f := 105) rfl ?_); refine goesL_ (some 33) rfl rfl Try.func105 (by kernel_rfl) rfl #[.slice A0 l0.length c0, .slice A1 l1.length c1, .agg #[.int .i64 a2_0, .int .i64 a2_1, .int .i64 a2_2]] rfl mB ?_; (with_reducible refine (gooseneckref01_parts.calls kj5 _ _ l0 _ _ l1 a2_0 a2_1 a2_2 false _ ?side1 ?side2 ?side3 ?side4 A18.out).mono ?_); (case side1 => exact cB HR0 HB); (case side2 => exact HC0.out); (case side3 => exact cB HR1 HB); (case side4 => exact HC1.out); rintro e w23 ⟨rfl, hb⟩; refine ⟨_, rfl, ?_⟩; replace BK101 := Aside0.mk (blk_below (kB BK101) hb); replace HB := Aside0.mk (below_step (bB1 HB GE101) hb); (try clear hb); (try clear hb2); (try clear hk); (try clear hi)))
      go_ret
      exact ⟨eB, bB1 HB GE101⟩
 ·rw [if_neg c5] at H
  have c5b0 : (t102 == 0) = false := beq_eq_false_iff_ne.mpr c5
  have c5b1 : (t102 != 0) = true := bne_iff_ne.mpr c5
  obtain rfl := Option.some.inj H
  go_enter Try.func63, Try.ntmps63
  go_wp2_with (first | ((with_reducible refine gate_dst (N := 5) rfl ?_); refine boxE (N := 5) (cs := #[.int .i64 a2_0, .int .i64 a2_1, .int .i64 a2_2]) (t := 75) ?_; intro gb101 hg w24 hbox hb; have n0_ := Aside0.mk (below_step (bB0 HB) hb); have BK101 := Aside0.mk (hbox); have GW101 := Aside0.mk (szB hg (below_size (bB0 HB))); have GE101 := GW101; clear HB; have HB := n0_; clear n0_; clear hb hbox hg) | ((with_reducible refine gate_callee (f := 97) rfl ?_); refine goesL_ (some 10) rfl rfl Try.func97 (by kernel_rfl) rfl #[.slice A0 l0.length c0, .slice A1 l1.length c1] rfl mB ?_; (with_reducible refine (gooseneckref01_hulls.calls k _ _ l0 _ _ l1 t102 _ ?side1 ?side2 ?side3 ?side4 A4.out).mono ?_); (case side1 => exact cB HR0 HB); (case side2 => exact HC0.out); (case side3 => exact cB HR1 HB); (case side4 => exact HC1.out); rintro e w25 ⟨rfl, hb⟩; refine ⟨_, rfl, ?_⟩; replace BK101 := Aside0.mk (blk_below (kB BK101) hb); replace HB := Aside0.mk (below_step (bB1 HB GE101) hb); (try clear hb); (try clear hb2); (try clear hk); (try clear hi)))
  go_ret
  exact ⟨eB, bB1 HB GE101⟩
def plane_Part.f (l0 : List (S23)) (l1 : List (S23)) : Option (Int × Int × Int × Int) := (plane_checkHulls.f (([l0, l1] : List (List (S23))))).bind fun t105 => (if t105 = 0 then ((plane_part.f l0 l1).bind fun bt106 => (if bt106.2.2.2 = true then (some (bt106.1, bt106.2.1, bt106.2.2.1, 0)) else (some (0, 0, 0, 5)))) else (some (0, 0, 0, t105)))
set_option maxHeartbeats 8000000 in
set_option maxRecDepth 100000 in
theorem plane_Part.calls (P0_ : Nat → Prop) (A0 : Option Addr) (c0 : Nat) (l0 : List (S23)) (P1_ : Nat → Prop) (A1 : Option Addr) (c1 : Nat) (l1 : List (S23)) (r1 : Int) (r2 : Int) (r3 : Int) (r4 : Int) (w : World) (hs0 : Kd.V k23 23 w w.heap.size (fun k_ => P0_ k_) (.slice A0 l0.length c0) l0) (hs1 : Kd.V k23 23 w w.heap.size (fun k_ => P1_ k_) (.slice A1 l1.length c1) l1) (h : plane_Part.f l0 l1 = some (r1, r2, r3, r4)) :
  Calls Try.prog 64 #[.slice A0 l0.length c0, .slice A1 l1.length c1] w fun e w' => e = .returned (.tuple #[.agg #[.int .i64 r1, .int .i64 r2, .int .i64 r3], .int .i64 r4]) ∧ Below w.heap.size w w' := by
 have hu75 := Try.underlying75
 have HO0 := Aside0.mk (show Kd.V k23 23 w w.heap.size (fun k_ => ((P0_ k_ ∨ P1_ k_) ∨ w.heap.size ≤ k_)) (.slice A0 l0.length c0) l0 from Kd.V_mono hs0 (fun k_ hk => .inl (.inl hk)))
 have HO1 := Aside0.mk (show Kd.V k23 23 w w.heap.size (fun k_ => ((P0_ k_ ∨ P1_ k_) ∨ w.heap.size ≤ k_)) (.slice A1 l1.length c1) l1 from Kd.V_mono hs1 (fun k_ hk => .inl (.inr hk)))
 have HB := Aside0.mk (Below.refl w.heap.size w)
 have H : ((plane_checkHulls.f (([l0, l1] : List (List (S23))))).bind fun t105 => (if t105 = 0 then ((plane_part.f l0 l1).bind fun bt106 => (if bt106.2.2.2 = true then (some (bt106.1, bt106.2.1, bt106.2.2.1, 0)) else (some (0, 0, 0, 5)))) else (some (0, 0, 0, t105)))) = some (r1, r2, r3, r4) := h
 clear h
 obtain ⟨y102, hy102⟩ : ∃ y_ : List (List (S23)), y_ = (([l0, l1] : List (List (S23)))) := ⟨_, rfl⟩
 replace H : ((plane_checkHulls.f y102).bind fun t105 => (if t105 = 0 then ((plane_part.f l0 l1).bind fun bt106 => (if bt106.2.2.2 = true then (some (bt106.1, bt106.2.1, bt106.2.2.1, 0)) else (some (0, 0, 0, 5)))) else (some (0, 0, 0, t105)))) = some (r1, r2, r3, r4) := by first | (rw [hy102]; with_reducible exact H) | (have H2_ := (Option.bind_some _ _).symm.trans H; rw [hy102]; with_reducible exact H2_) | (have H2_ := (Option.bind_some _ _).symm.trans H; with_reducible exact H2_) | with_reducible exact H | (rw [hy102]; exact H) | exact H
 have Ny102 := Aside0.mk hy102
 clear hy102
 replace H := Option.bind_eq_some_iff.mp H
 obtain ⟨t105, A30, H⟩ := H
 replace H : (if t105 = 0 then ((plane_part.f l0 l1).bind fun bt106 => (if bt106.2.2.2 = true then (some (bt106.1, bt106.2.1, bt106.2.2.1, 0)) else (some (0, 0, 0, 5)))) else (some (0, 0, 0, t105))) = some (r1, r2, r3, r4) := H
 have A3 := Aside0.mk A30
 clear A30
 by_cases c4 : t105 = 0
 ·rw [if_pos c4] at H
  have c4b0 : (t105 == 0) = true := beq_iff_eq.mpr c4
  have c4b1 : (t105 != 0) = false := bne_eq_false_iff_eq.mpr c4
  clear c4
  replace H := Option.bind_eq_some_iff.mp H
  obtain ⟨⟨t106, t107, t108, t109⟩, A50, H⟩ := H
  replace H : (if t109 = true then (some (t106, t107, t108, 0)) else (some (0, 0, 0, 5))) = some (r1, r2, r3, r4) := H
  have A5 := Aside0.mk A50
  clear A50
  by_cases c6 : t109 = true
  ·subst c6
   have H1 : (some (t106, t107, t108, 0)) = some (r1, r2, r3, r4) := by rw [if_pos rfl] at H; exact H
   clear H
   have H := H1
   clear H1
   simp only [Option.some.injEq, Prod.mk.injEq] at H
   obtain ⟨rfl, rfl, rfl, rfl⟩ := H
   go_enter Try.func64, Try.ntmps64
   go_wp2_with (first | ((with_reducible refine gate_dst (N := 4) rfl ?_); refine boxE (N := 4) (cs := #[.int .i64 0, .int .i64 0, .int .i64 0]) (t := 75) ?_; intro gb101 hg w7 hbox hb; replace HO0 := Aside0.mk (Kd.V_below (Kd.V_elderB (vB HO0) gb101 (Nat.le_of_eq hg.symm)) hb); replace HO1 := Aside0.mk (Kd.V_below (Kd.V_elderB (vB HO1) gb101 (Nat.le_of_eq hg.symm)) hb); have n2_ := Aside0.mk (below_step (bB0 HB) hb); have BK101 := Aside0.mk (hbox); have GW101 := Aside0.mk (szB hg (below_size (bB0 HB))); have GE101 := GW101; clear HB; have HB := n2_; clear n2_; clear hb hbox hg) | ((with_reducible refine gate_dst (N := 11) rfl ?_); refine Kd.N_lit (Kd.slice 23 k23) _ 53 ?hg (N' := 11) ?hd (xs := ([l0, l1] : List (List (S23)))) (inner := [.slice A0 l0.length c0, .slice A1 l1.length c1]) (ok := (fun k_ => ((P0_ k_ ∨ P1_ k_) ∨ w.heap.size ≤ k_) ∧ k_ ≠ gb101)) (okp := (fun k_ => ((P0_ k_ ∨ P1_ k_) ∨ w.heap.size ≤ k_) ∧ k_ ≠ gb101)) ?hr ?hp (fun _ hk => hk) ((show ∀ k_, w7.heap.size ≤ k_ → (fun k_ => ((P0_ k_ ∨ P1_ k_) ∨ w.heap.size ≤ k_) ∧ k_ ≠ gb101) k_ from fun k_ hk => ⟨(.inr (Nat.le_trans (below_size (bB1 HB GE101)) hk)), Kd.freshB (kB BK101) k_ hk⟩) _ (Nat.le_refl _)) (Below.refl _ _) (Nat.le_refl _) (by simp) ?_; (case hd => rfl); (case hg => rfl); (case hr => first | (go_simp; done) | (go_simp; rfl)); (case hp => exact (Reps.one (show Kd.FK (Kd.slice 23 k23) _ _ l0 [.slice A0 l0.length c0] from (Kd.FK_slice_mk (Kd.V_reads' (Kd.V_mono (ok' := (fun k_ => ((P0_ k_ ∨ P1_ k_) ∨ w.heap.size ≤ k_) ∧ k_ ≠ gb101)) (HO0.out) (fun k_ hk => ⟨hk.1, hk.2⟩))).2.1 (Kd.V_F (Kd.V_mono (ok' := (fun k_ => ((P0_ k_ ∨ P1_ k_) ∨ w.heap.size ≤ k_) ∧ k_ ≠ gb101)) (HO0.out) (fun k_ hk => ⟨hk.1, hk.2⟩))))) (Reps.one (show Kd.FK (Kd.slice 23 k23) _ _ l1 [.slice A1 l1.length c1] from (Kd.FK_slice_mk (Kd.V_reads' (Kd.V_mono (ok' := (fun k_ => ((P0_ k_ ∨ P1_ k_) ∨ w.heap.size ≤ k_) ∧ k_ ≠ gb101)) (HO1.out) (fun k_ hk => ⟨hk.1, hk.2⟩))).2.1 (Kd.V_F (Kd.V_mono (ok' := (fun k_ => ((P0_ k_ ∨ P1_ k_) ∨ w.heap.size ≤ k_) ∧ k_ ≠ gb101)) (HO1.out) (fun k_ hk => ⟨hk.1, hk.2⟩))))) (Reps.none _ _)))); intro v103 w8 ho9 hb hg_ hnew_; clear hg_ hnew_; (first | rw [← Ny102.out] at ho9 | (simp only [Int.reduceToNat] at ho9; rw [← Ny102.out] at ho9)); replace HO0 := Aside0.mk (Kd.V_elder' (vB HO0) (Kd.N_base ho9) hb); replace HO1 := Aside0.mk (Kd.V_elder' (vB HO1) (Kd.N_base ho9) hb); have HO104 := Aside0.mk (Kd.N_lower ho9 (below_size (bB1 HB GE101))); replace BK101 := Aside0.mk (blk_below (kB BK101) hb); replace HB := Aside0.mk (below_step (bB1 HB GE101) hb); clear hb ho9; obtain ⟨Ao10, co10, eo10⟩ := Kd.N_slice HO104.out; subst eo10) | ((with_reducible refine gate_callee (f := 94) rfl ?_); refine goesL_ (some 12) rfl rfl Try.func94 (by kernel_rfl) rfl #[.slice Ao10 y102.length co10] rfl mB ?_; (with_reducible refine (plane_checkHulls.calls _ _ y102 t105 _ ?side1 ?side2 A3.out).mono ?_); (case side1 => repeat (first | exact (Kd.N_reads' HO104.out).2.2 | (with_reducible refine Kd.C_alloc ?_ _) | (with_reducible refine Kd.C_drewN ?_ _) | (with_reducible refine Kd.C_drew ?_))); (case side2 => exact (Kd.N_reads' HO104.out).2.1); rintro e w11 ⟨rfl, hb⟩; refine ⟨_, rfl, ?_⟩; replace HO0 := Aside0.mk (Kd.V_below (vB HO0) hb); replace HO1 := Aside0.mk (Kd.V_below (vB HO1) hb); replace HO104 := Aside0.mk (Kd.N_below (by (with_reducible repeat (first | apply Kd.N_alloc | apply Kd.N_drewN | apply Kd.N_drew)); exact HO104.out) hb); replace BK101 := Aside0.mk (blk_below (kB BK101) hb); replace HB := Aside0.mk (below_step (bB1 HB GE101) hb); (try clear hb); (try clear hb2); (try clear hk); (try clear hi)) | ((with_reducible refine gate_callee (f := 106) rfl ?_); refine goesL_ (some 20) rfl rfl Try.func106 (by kernel_rfl) rfl #[.slice A0 l0.length c0, .slice A1 l1.length c1] rfl mB ?_; (with_reducible refine (plane_part.calls _ _ l0 _ _ l1 t106 t107 t108 true _ ?side1 ?side2 ?side3 ?side4 A5.out).mono ?_); (case side1 => repeat (first | exact (Kd.V_reads' HO0.out).2.2 | (with_reducible refine Kd.C_alloc ?_ _) | (with_reducible refine Kd.C_drewN ?_ _) | (with_reducible refine Kd.C_drew ?_))); (case side2 => exact (Kd.V_reads' HO0.out).2.1); (case side3 => repeat (first | exact (Kd.V_reads' HO1.out).2.2 | (with_reducible refine Kd.C_alloc ?_ _) | (with_reducible refine Kd.C_drewN ?_ _) | (with_reducible refine Kd.C_drew ?_))); (case side4 => exact (Kd.V_reads' HO1.out).2.1); rintro e w12 ⟨rfl, hb⟩; refine ⟨_, rfl, ?_⟩; replace HO0 := Aside0.mk (Kd.V_below (vB HO0) hb); replace HO1 := Aside0.mk (Kd.V_below (vB HO1) hb); replace HO104 := Aside0.mk (Kd.N_below (by (with_reducible repeat (first | apply Kd.N_alloc | apply Kd.N_drewN | apply Kd.N_drew)); exact HO104.out) hb); replace BK101 := Aside0.mk (blk_below (kB BK101) hb); replace HB := Aside0.mk (below_step (bB1 HB GE101) hb); (try clear hb); (try clear hb2); (try clear hk); (try clear hi)) | ((with_reducible refine gate_dst (N := 7) rfl ?_); refine boxE (N := 7) (cs := #[.int .i64 0, .int .i64 0, .int .i64 0]) (t := 75) ?_; intro gb110 hg w13 hbox hb; replace HO0 := Aside0.mk (Kd.V_below (Kd.V_elderB (vB HO0) gb110 (Nat.le_of_eq hg.symm)) hb); replace HO1 := Aside0.mk (Kd.V_below (Kd.V_elderB (vB HO1) gb110 (Nat.le_of_eq hg.symm)) hb); replace HO104 := Aside0.mk (Kd.N_below (Kd.N_elderB (by (with_reducible repeat (first | apply Kd.N_alloc | apply Kd.N_drewN | apply Kd.N_drew)); exact HO104.out) gb110 (Nat.le_of_eq hg.symm)) hb); have n3_ := Aside0.mk (blk_below (kB BK101) hb); have n4_ := Aside0.mk (below_step (bB1 HB GE101) hb); have BK110 := Aside0.mk (hbox); have GW110 := Aside0.mk (szB hg (below_size (bB1 HB GE101))); have GE110 := GW110; have NB101_110 := Aside0.mk (neA hg (blk_lt (kB BK101))); have NB110_101 := Aside0.mk (neB hg (blk_lt (kB BK101))); clear BK101; clear HB; have BK101 := n3_; have HB := n4_; clear n3_ n4_; clear hb hbox hg; have hnb14 := NB110_101.out; have hnc14 := NB101_110.out; have hcz15_0 : w13.cell? ⟨gb110, 0, none⟩ = some (.int .i64 0) := (blk_cell BK110.out 0).trans rfl; have hcz15_1 : w13.cell? ⟨gb110, 1, none⟩ = some (.int .i64 0) := (blk_cell BK110.out 1).trans rfl; have hcz15_2 : w13.cell? ⟨gb110, 2, none⟩ = some (.int .i64 0) := (blk_cell BK110.out 2).trans rfl; have hfz15_0 := blk_frozen BK110.out 0; have hfz15_1 := blk_frozen BK110.out 1; have hfz15_2 := blk_frozen BK110.out 2; have hcz16_0 : w13.cell? ⟨gb101, 0, none⟩ = some (.int .i64 0) := (blk_cell BK101.out 0).trans rfl; have hcz16_1 : w13.cell? ⟨gb101, 1, none⟩ = some (.int .i64 0) := (blk_cell BK101.out 1).trans rfl; have hcz16_2 : w13.cell? ⟨gb101, 2, none⟩ = some (.int .i64 0) := (blk_cell BK101.out 2).trans rfl; have hfz16_0 := blk_frozen BK101.out 0; have hfz16_1 := blk_frozen BK101.out 1; have hfz16_2 := blk_frozen BK101.out 2))
   refine bodyPost_ret (results_ct rfl _ _ gb101 75 #[.int .i64 t106, .int .i64 t107, .int .i64 t108] (0, 0) _ rfl (by (with_reducible repeat (first | refine blk_drewN ?_ _ | refine blk_drew ?_ | refine blk_alloc ?_ _)); refine blk_put (cs := #[.int .i64 t106, .int .i64 t107, .int .i64 0]) ?_ 2 _ rfl; (with_reducible repeat (first | refine blk_drewN ?_ _ | refine blk_drew ?_ | refine blk_alloc ?_ _)); refine blk_put (cs := #[.int .i64 t106, .int .i64 0, .int .i64 0]) ?_ 1 _ rfl; (with_reducible repeat (first | refine blk_drewN ?_ _ | refine blk_drew ?_ | refine blk_alloc ?_ _)); refine blk_put (cs := #[.int .i64 0, .int .i64 0, .int .i64 0]) ?_ 0 _ rfl; (with_reducible repeat (first | refine blk_drewN ?_ _ | refine blk_drew ?_ | refine blk_alloc ?_ _)); refine blk_far ?_ NB101_110.out _; (with_reducible repeat (first | refine blk_drewN ?_ _ | refine blk_drew ?_ | refine blk_alloc ?_ _)); refine blk_far ?_ NB101_110.out _; (with_reducible repeat (first | refine blk_drewN ?_ _ | refine blk_drew ?_ | refine blk_alloc ?_ _)); refine blk_far ?_ NB101_110.out _; (with_reducible repeat (first | refine blk_drewN ?_ _ | refine blk_drew ?_ | refine blk_alloc ?_ _)); exact BK101.out) Try.underlying75 rfl (by kernel_rfl)) rfl ?_
   exact ⟨eB, bB2 HB GE101 GE110⟩
  ·replace c6 := Bool.eq_false_iff.mpr c6
   subst c6
   have H1 : (some (0, 0, 0, 5)) = some (r1, r2, r3, r4) := by rw [if_neg (show ¬ (false = true) by decide)] at H; exact H
   clear H
   have H := H1
   clear H1
   simp only [Option.some.injEq, Prod.mk.injEq] at H
   obtain ⟨rfl, rfl, rfl, rfl⟩ := H
   go_enter Try.func64, Try.ntmps64
   go_wp2_with (first | ((with_reducible refine gate_dst (N := 4) rfl ?_); refine boxE (N := 4) (cs := #[.int .i64 0, .int .i64 0, .int .i64 0]) (t := 75) ?_; intro gb101 hg w17 hbox hb; replace HO0 := Aside0.mk (Kd.V_below (Kd.V_elderB (vB HO0) gb101 (Nat.le_of_eq hg.symm)) hb); replace HO1 := Aside0.mk (Kd.V_below (Kd.V_elderB (vB HO1) gb101 (Nat.le_of_eq hg.symm)) hb); have n2_ := Aside0.mk (below_step (bB0 HB) hb); have BK101 := Aside0.mk (hbox); have GW101 := Aside0.mk (szB hg (below_size (bB0 HB))); have GE101 := GW101; clear HB; have HB := n2_; clear n2_; clear hb hbox hg) | ((with_reducible refine gate_dst (N := 11) rfl ?_); refine Kd.N_lit (Kd.slice 23 k23) _ 53 ?hg (N' := 11) ?hd (xs := ([l0, l1] : List (List (S23)))) (inner := [.slice A0 l0.length c0, .slice A1 l1.length c1]) (ok := (fun k_ => ((P0_ k_ ∨ P1_ k_) ∨ w.heap.size ≤ k_) ∧ k_ ≠ gb101)) (okp := (fun k_ => ((P0_ k_ ∨ P1_ k_) ∨ w.heap.size ≤ k_) ∧ k_ ≠ gb101)) ?hr ?hp (fun _ hk => hk) ((show ∀ k_, w17.heap.size ≤ k_ → (fun k_ => ((P0_ k_ ∨ P1_ k_) ∨ w.heap.size ≤ k_) ∧ k_ ≠ gb101) k_ from fun k_ hk => ⟨(.inr (Nat.le_trans (below_size (bB1 HB GE101)) hk)), Kd.freshB (kB BK101) k_ hk⟩) _ (Nat.le_refl _)) (Below.refl _ _) (Nat.le_refl _) (by simp) ?_; (case hd => rfl); (case hg => rfl); (case hr => first | (go_simp; done) | (go_simp; rfl)); (case hp => exact (Reps.one (show Kd.FK (Kd.slice 23 k23) _ _ l0 [.slice A0 l0.length c0] from (Kd.FK_slice_mk (Kd.V_reads' (Kd.V_mono (ok' := (fun k_ => ((P0_ k_ ∨ P1_ k_) ∨ w.heap.size ≤ k_) ∧ k_ ≠ gb101)) (HO0.out) (fun k_ hk => ⟨hk.1, hk.2⟩))).2.1 (Kd.V_F (Kd.V_mono (ok' := (fun k_ => ((P0_ k_ ∨ P1_ k_) ∨ w.heap.size ≤ k_) ∧ k_ ≠ gb101)) (HO0.out) (fun k_ hk => ⟨hk.1, hk.2⟩))))) (Reps.one (show Kd.FK (Kd.slice 23 k23) _ _ l1 [.slice A1 l1.length c1] from (Kd.FK_slice_mk (Kd.V_reads' (Kd.V_mono (ok' := (fun k_ => ((P0_ k_ ∨ P1_ k_) ∨ w.heap.size ≤ k_) ∧ k_ ≠ gb101)) (HO1.out) (fun k_ hk => ⟨hk.1, hk.2⟩))).2.1 (Kd.V_F (Kd.V_mono (ok' := (fun k_ => ((P0_ k_ ∨ P1_ k_) ∨ w.heap.size ≤ k_) ∧ k_ ≠ gb101)) (HO1.out) (fun k_ hk => ⟨hk.1, hk.2⟩))))) (Reps.none _ _)))); intro v103 w18 ho19 hb hg_ hnew_; clear hg_ hnew_; (first | rw [← Ny102.out] at ho19 | (simp only [Int.reduceToNat] at ho19; rw [← Ny102.out] at ho19)); replace HO0 := Aside0.mk (Kd.V_elder' (vB HO0) (Kd.N_base ho19) hb); replace HO1 := Aside0.mk (Kd.V_elder' (vB HO1) (Kd.N_base ho19) hb); have HO104 := Aside0.mk (Kd.N_lower ho19 (below_size (bB1 HB GE101))); replace BK101 := Aside0.mk (blk_below (kB BK101) hb); replace HB := Aside0.mk (below_step (bB1 HB GE101) hb); clear hb ho19; obtain ⟨Ao20, co20, eo20⟩ := Kd.N_slice HO104.out; subst eo20) | ((with_reducible refine gate_callee (f := 94) rfl ?_); refine goesL_ (some 12) rfl rfl Try.func94 (by kernel_rfl) rfl #[.slice Ao20 y102.length co20] rfl mB ?_; (with_reducible refine (plane_checkHulls.calls _ _ y102 t105 _ ?side1 ?side2 A3.out).mono ?_); (case side1 => repeat (first | exact (Kd.N_reads' HO104.out).2.2 | (with_reducible refine Kd.C_alloc ?_ _) | (with_reducible refine Kd.C_drewN ?_ _) | (with_reducible refine Kd.C_drew ?_))); (case side2 => exact (Kd.N_reads' HO104.out).2.1); rintro e w21 ⟨rfl, hb⟩; refine ⟨_, rfl, ?_⟩; replace HO0 := Aside0.mk (Kd.V_below (vB HO0) hb); replace HO1 := Aside0.mk (Kd.V_below (vB HO1) hb); replace HO104 := Aside0.mk (Kd.N_below (by (with_reducible repeat (first | apply Kd.N_alloc | apply Kd.N_drewN | apply Kd.N_drew)); exact HO104.out) hb); replace BK101 := Aside0.mk (blk_below (kB BK101) hb); replace HB := Aside0.mk (below_step (bB1 HB GE101) hb); (try clear hb); (try clear hb2); (try clear hk); (try clear hi)) | ((with_reducible refine gate_callee (f := 106) rfl ?_); refine goesL_ (some 20) rfl rfl Try.func106 (by kernel_rfl) rfl #[.slice A0 l0.length c0, .slice A1 l1.length c1] rfl mB ?_; (with_reducible refine (plane_part.calls _ _ l0 _ _ l1 t106 t107 t108 false _ ?side1 ?side2 ?side3 ?side4 A5.out).mono ?_); (case side1 => repeat (first | exact (Kd.V_reads' HO0.out).2.2 | (with_reducible refine Kd.C_alloc ?_ _) | (with_reducible refine Kd.C_drewN ?_ _) | (with_reducible refine Kd.C_drew ?_))); (case side2 => exact (Kd.V_reads' HO0.out).2.1); (case side3 => repeat (first | exact (Kd.V_reads' HO1.out).2.2 | (with_reducible refine Kd.C_alloc ?_ _) | (with_reducible refine Kd.C_drewN ?_ _) | (with_reducible refine Kd.C_drew ?_))); (case side4 => exact (Kd.V_reads' HO1.out).2.1); rintro e w22 ⟨rfl, hb⟩; refine ⟨_, rfl, ?_⟩; replace HO0 := Aside0.mk (Kd.V_below (vB HO0) hb); replace HO1 := Aside0.mk (Kd.V_below (vB HO1) hb); replace HO104 := Aside0.mk (Kd.N_below (by (with_reducible repeat (first | apply Kd.N_alloc | apply Kd.N_drewN | apply Kd.N_drew)); exact HO104.out) hb); replace BK101 := Aside0.mk (blk_below (kB BK101) hb); replace HB := Aside0.mk (below_step (bB1 HB GE101) hb); (try clear hb); (try clear hb2); (try clear hk); (try clear hi)) | ((with_reducible refine gate_dst (N := 7) rfl ?_); refine boxE (N := 7) (cs := #[.int .i64 0, .int .i64 0, .int .i64 0]) (t := 75) ?_; intro gb110 hg w23 hbox hb; replace HO0 := Aside0.mk (Kd.V_below (Kd.V_elderB (vB HO0) gb110 (Nat.le_of_eq hg.symm)) hb); replace HO1 := Aside0.mk (Kd.V_below (Kd.V_elderB (vB HO1) gb110 (Nat.le_of_eq hg.symm)) hb); replace HO104 := Aside0.mk (Kd.N_below (Kd.N_elderB (by (with_reducible repeat (first | apply Kd.N_alloc | apply Kd.N_drewN | apply Kd.N_drew)); exact HO104.out) gb110 (Nat.le_of_eq hg.symm)) hb); have n3_ := Aside0.mk (blk_below (kB BK101) hb); have n4_ := Aside0.mk (below_step (bB1 HB GE101) hb); have BK110 := Aside0.mk (hbox); have GW110 := Aside0.mk (szB hg (below_size (bB1 HB GE101))); have GE110 := GW110; have NB101_110 := Aside0.mk (neA hg (blk_lt (kB BK101))); have NB110_101 := Aside0.mk (neB hg (blk_lt (kB BK101))); clear BK101; clear HB; have BK101 := n3_; have HB := n4_; clear n3_ n4_; clear hb hbox hg; have hnb24 := NB110_101.out; have hnc24 := NB101_110.out; have hcz25_0 : w23.cell? ⟨gb110, 0, none⟩ = some (.int .i64 0) := (blk_cell BK110.out 0).trans rfl; have hcz25_1 : w23.cell? ⟨gb110, 1, none⟩ = some (.int .i64 0) := (blk_cell BK110.out 1).trans rfl; have hcz25_2 : w23.cell? ⟨gb110, 2, none⟩ = some (.int .i64 0) := (blk_cell BK110.out 2).trans rfl; have hfz25_0 := blk_frozen BK110.out 0; have hfz25_1 := blk_frozen BK110.out 1; have hfz25_2 := blk_frozen BK110.out 2; have hcz26_0 : w23.cell? ⟨gb101, 0, none⟩ = some (.int .i64 0) := (blk_cell BK101.out 0).trans rfl; have hcz26_1 : w23.cell? ⟨gb101, 1, none⟩ = some (.int .i64 0) := (blk_cell BK101.out 1).trans rfl; have hcz26_2 : w23.cell? ⟨gb101, 2, none⟩ = some (.int .i64 0) := (blk_cell BK101.out 2).trans rfl; have hfz26_0 := blk_frozen BK101.out 0; have hfz26_1 := blk_frozen BK101.out 1; have hfz26_2 := blk_frozen BK101.out 2))
   refine bodyPost_ret (results_ct rfl _ _ gb101 75 #[.int .i64 0, .int .i64 0, .int .i64 0] (0, 0) _ rfl (by (with_reducible repeat (first | refine blk_drewN ?_ _ | refine blk_drew ?_ | refine blk_alloc ?_ _)); refine blk_put (cs := #[.int .i64 0, .int .i64 0, .int .i64 0]) ?_ 2 _ rfl; (with_reducible repeat (first | refine blk_drewN ?_ _ | refine blk_drew ?_ | refine blk_alloc ?_ _)); refine blk_put (cs := #[.int .i64 0, .int .i64 0, .int .i64 0]) ?_ 1 _ rfl; (with_reducible repeat (first | refine blk_drewN ?_ _ | refine blk_drew ?_ | refine blk_alloc ?_ _)); refine blk_put (cs := #[.int .i64 0, .int .i64 0, .int .i64 0]) ?_ 0 _ rfl; (with_reducible repeat (first | refine blk_drewN ?_ _ | refine blk_drew ?_ | refine blk_alloc ?_ _)); refine blk_far ?_ NB101_110.out _; (with_reducible repeat (first | refine blk_drewN ?_ _ | refine blk_drew ?_ | refine blk_alloc ?_ _)); refine blk_far ?_ NB101_110.out _; (with_reducible repeat (first | refine blk_drewN ?_ _ | refine blk_drew ?_ | refine blk_alloc ?_ _)); refine blk_far ?_ NB101_110.out _; (with_reducible repeat (first | refine blk_drewN ?_ _ | refine blk_drew ?_ | refine blk_alloc ?_ _)); exact BK101.out) Try.underlying75 rfl (by kernel_rfl)) rfl ?_
   exact ⟨eB, bB2 HB GE101 GE110⟩
 ·rw [if_neg c4] at H
  have c4b0 : (t105 == 0) = false := beq_eq_false_iff_ne.mpr c4
  have c4b1 : (t105 != 0) = true := bne_iff_ne.mpr c4
  simp only [Option.some.injEq, Prod.mk.injEq] at H
  obtain ⟨rfl, rfl, rfl, rfl⟩ := H
  go_enter Try.func64, Try.ntmps64
  go_wp2_with (first | ((with_reducible refine gate_dst (N := 4) rfl ?_); refine boxE (N := 4) (cs := #[.int .i64 0, .int .i64 0, .int .i64 0]) (t := 75) ?_; intro gb101 hg w27 hbox hb; replace HO0 := Aside0.mk (Kd.V_below (Kd.V_elderB (vB HO0) gb101 (Nat.le_of_eq hg.symm)) hb); replace HO1 := Aside0.mk (Kd.V_below (Kd.V_elderB (vB HO1) gb101 (Nat.le_of_eq hg.symm)) hb); have n2_ := Aside0.mk (below_step (bB0 HB) hb); have BK101 := Aside0.mk (hbox); have GW101 := Aside0.mk (szB hg (below_size (bB0 HB))); have GE101 := GW101; clear HB; have HB := n2_; clear n2_; clear hb hbox hg) | ((with_reducible refine gate_dst (N := 11) rfl ?_); refine Kd.N_lit (Kd.slice 23 k23) _ 53 ?hg (N' := 11) ?hd (xs := ([l0, l1] : List (List (S23)))) (inner := [.slice A0 l0.length c0, .slice A1 l1.length c1]) (ok := (fun k_ => ((P0_ k_ ∨ P1_ k_) ∨ w.heap.size ≤ k_) ∧ k_ ≠ gb101)) (okp := (fun k_ => ((P0_ k_ ∨ P1_ k_) ∨ w.heap.size ≤ k_) ∧ k_ ≠ gb101)) ?hr ?hp (fun _ hk => hk) ((show ∀ k_, w27.heap.size ≤ k_ → (fun k_ => ((P0_ k_ ∨ P1_ k_) ∨ w.heap.size ≤ k_) ∧ k_ ≠ gb101) k_ from fun k_ hk => ⟨(.inr (Nat.le_trans (below_size (bB1 HB GE101)) hk)), Kd.freshB (kB BK101) k_ hk⟩) _ (Nat.le_refl _)) (Below.refl _ _) (Nat.le_refl _) (by simp) ?_; (case hd => rfl); (case hg => rfl); (case hr => first | (go_simp; done) | (go_simp; rfl)); (case hp => exact (Reps.one (show Kd.FK (Kd.slice 23 k23) _ _ l0 [.slice A0 l0.length c0] from (Kd.FK_slice_mk (Kd.V_reads' (Kd.V_mono (ok' := (fun k_ => ((P0_ k_ ∨ P1_ k_) ∨ w.heap.size ≤ k_) ∧ k_ ≠ gb101)) (HO0.out) (fun k_ hk => ⟨hk.1, hk.2⟩))).2.1 (Kd.V_F (Kd.V_mono (ok' := (fun k_ => ((P0_ k_ ∨ P1_ k_) ∨ w.heap.size ≤ k_) ∧ k_ ≠ gb101)) (HO0.out) (fun k_ hk => ⟨hk.1, hk.2⟩))))) (Reps.one (show Kd.FK (Kd.slice 23 k23) _ _ l1 [.slice A1 l1.length c1] from (Kd.FK_slice_mk (Kd.V_reads' (Kd.V_mono (ok' := (fun k_ => ((P0_ k_ ∨ P1_ k_) ∨ w.heap.size ≤ k_) ∧ k_ ≠ gb101)) (HO1.out) (fun k_ hk => ⟨hk.1, hk.2⟩))).2.1 (Kd.V_F (Kd.V_mono (ok' := (fun k_ => ((P0_ k_ ∨ P1_ k_) ∨ w.heap.size ≤ k_) ∧ k_ ≠ gb101)) (HO1.out) (fun k_ hk => ⟨hk.1, hk.2⟩))))) (Reps.none _ _)))); intro v103 w28 ho29 hb hg_ hnew_; clear hg_ hnew_; (first | rw [← Ny102.out] at ho29 | (simp only [Int.reduceToNat] at ho29; rw [← Ny102.out] at ho29)); replace HO0 := Aside0.mk (Kd.V_elder' (vB HO0) (Kd.N_base ho29) hb); replace HO1 := Aside0.mk (Kd.V_elder' (vB HO1) (Kd.N_base ho29) hb); have HO104 := Aside0.mk (Kd.N_lower ho29 (below_size (bB1 HB GE101))); replace BK101 := Aside0.mk (blk_below (kB BK101) hb); replace HB := Aside0.mk (below_step (bB1 HB GE101) hb); clear hb ho29; obtain ⟨Ao30, co30, eo30⟩ := Kd.N_slice HO104.out; subst eo30) | ((with_reducible refine gate_callee (f := 94) rfl ?_); refine goesL_ (some 12) rfl rfl Try.func94 (by kernel_rfl) rfl #[.slice Ao30 y102.length co30] rfl mB ?_; (with_reducible refine (plane_checkHulls.calls _ _ y102 t105 _ ?side1 ?side2 A3.out).mono ?_); (case side1 => repeat (first | exact (Kd.N_reads' HO104.out).2.2 | (with_reducible refine Kd.C_alloc ?_ _) | (with_reducible refine Kd.C_drewN ?_ _) | (with_reducible refine Kd.C_drew ?_))); (case side2 => exact (Kd.N_reads' HO104.out).2.1); rintro e w31 ⟨rfl, hb⟩; refine ⟨_, rfl, ?_⟩; replace HO0 := Aside0.mk (Kd.V_below (vB HO0) hb); replace HO1 := Aside0.mk (Kd.V_below (vB HO1) hb); replace HO104 := Aside0.mk (Kd.N_below (by (with_reducible repeat (first | apply Kd.N_alloc | apply Kd.N_drewN | apply Kd.N_drew)); exact HO104.out) hb); replace BK101 := Aside0.mk (blk_below (kB BK101) hb); replace HB := Aside0.mk (below_step (bB1 HB GE101) hb); (try clear hb); (try clear hb2); (try clear hk); (try clear hi); have hcz32_0 : w31.cell? ⟨gb101, 0, none⟩ = some (.int .i64 0) := (blk_cell BK101.out 0).trans rfl; have hcz32_1 : w31.cell? ⟨gb101, 1, none⟩ = some (.int .i64 0) := (blk_cell BK101.out 1).trans rfl; have hcz32_2 : w31.cell? ⟨gb101, 2, none⟩ = some (.int .i64 0) := (blk_cell BK101.out 2).trans rfl; have hfz32_0 := blk_frozen BK101.out 0; have hfz32_1 := blk_frozen BK101.out 1; have hfz32_2 := blk_frozen BK101.out 2))
  refine bodyPost_ret (results_ct rfl _ _ gb101 75 #[.int .i64 0, .int .i64 0, .int .i64 0] (0, 0) _ rfl (by (with_reducible repeat (first | refine blk_drewN ?_ _ | refine blk_drew ?_ | refine blk_alloc ?_ _)); refine blk_put (cs := #[.int .i64 0, .int .i64 0, .int .i64 0]) ?_ 2 _ rfl; (with_reducible repeat (first | refine blk_drewN ?_ _ | refine blk_drew ?_ | refine blk_alloc ?_ _)); refine blk_put (cs := #[.int .i64 0, .int .i64 0, .int .i64 0]) ?_ 1 _ rfl; (with_reducible repeat (first | refine blk_drewN ?_ _ | refine blk_drew ?_ | refine blk_alloc ?_ _)); refine blk_put (cs := #[.int .i64 0, .int .i64 0, .int .i64 0]) ?_ 0 _ rfl; (with_reducible repeat (first | refine blk_drewN ?_ _ | refine blk_drew ?_ | refine blk_alloc ?_ _)); exact BK101.out) Try.underlying75 rfl (by kernel_rfl)) rfl ?_
  exact ⟨eB, bB1 HB GE101⟩
def gooseneckref01_Part.f (k : Nat) (l0 : List (S23)) (l1 : List (S23)) : Option (Int) := (gooseneckref01_hulls.f k l0 l1).bind fun t101 => (if t101 = 0 then ((gooseneckref01_Meets.f k l0 l1).bind fun t102 => (if t102 = true then (some 5) else (some 0))) else (some t101))
theorem gooseneckref01_Part.mono : ∀ a0 a1 k, LeO (gooseneckref01_Part.f k a0 a1) (gooseneckref01_Part.f (k + 1) a0 a1) := by
 intro a0 a1 k
 unfold gooseneckref01_Part.f
 repeat' first
   | (with_reducible exact gooseneckref01_Meets.mono _ _ _)
   | (with_reducible exact gooseneckref01_hulls.mono _ _ _)
   | (with_reducible exact LeO.refl _)
   | (with_reducible exact LeO.none _)
   | (with_reducible refine LeO.ite ?_ ?_)
   | (with_reducible refine LeO.bind ?_ (fun _ => ?_))
   | exact gooseneckref01_Meets.mono _ _ _
   | exact gooseneckref01_hulls.mono _ _ _
   | exact LeO.none _
   | refine LeO.ite ?_ ?_
   | refine LeO.bind ?_ (fun _ => ?_)
set_option maxHeartbeats 8000000 in
set_option maxRecDepth 100000 in
theorem gooseneckref01_Part.calls (k : Nat) (A0 : Option Addr) (c0 : Nat) (l0 : List (S23)) (A1 : Option Addr) (c1 : Nat) (l1 : List (S23)) (r : Int) (w : World) (hr0 : Kd.C k23 w A0 l0.length l0) (hc0 : l0.length ≤ c0) (hr1 : Kd.C k23 w A1 l1.length l1) (hc1 : l1.length ≤ c1) (h : gooseneckref01_Part.f k l0 l1 = some r) :
  Calls Try.prog 65 #[.slice A0 l0.length c0, .slice A1 l1.length c1] w fun e w' => e = .returned (.int .i64 r) ∧ Below w.heap.size w w' := by
 have HR0 := Aside0.mk hr0
 have HC0 := Aside0.mk hc0
 clear hr0 hc0
 have HR1 := Aside0.mk hr1
 have HC1 := Aside0.mk hc1
 clear hr1 hc1
 have HB := Aside0.mk (Below.refl w.heap.size w)
 have H : ((gooseneckref01_hulls.f k l0 l1).bind fun t101 => (if t101 = 0 then ((gooseneckref01_Meets.f k l0 l1).bind fun t102 => (if t102 = true then (some 5) else (some 0))) else (some t101))) = some r := h
 clear h
 replace H := Option.bind_eq_some_iff.mp H
 obtain ⟨t101, A30, H⟩ := H
 replace H : (if t101 = 0 then ((gooseneckref01_Meets.f k l0 l1).bind fun t102 => (if t102 = true then (some 5) else (some 0))) else (some t101)) = some r := H
 have A3 := Aside0.mk A30
 clear A30
 by_cases c4 : t101 = 0
 ·rw [if_pos c4] at H
  have c4b0 : (t101 == 0) = true := beq_iff_eq.mpr c4
  have c4b1 : (t101 != 0) = false := bne_eq_false_iff_eq.mpr c4
  clear c4
  replace H := Option.bind_eq_some_iff.mp H
  obtain ⟨t102, A50, H⟩ := H
  replace H : (if t102 = true then (some 5) else (some 0)) = some r := H
  have A5 := Aside0.mk A50
  clear A50
  by_cases c6 : t102 = true
  ·subst c6
   have H1 : (some 5) = some r := by rw [if_pos rfl] at H; exact H
   clear H
   have H := H1
   clear H1
   obtain rfl := Option.some.inj H
   go_enter Try.func65, Try.ntmps65
   go_wp2_with (first | ((with_reducible refine gate_callee (f := 97) rfl ?_); refine goesL_ (some 8) rfl rfl Try.func97 (by kernel_rfl) rfl #[.slice A0 l0.length c0, .slice A1 l1.length c1] rfl mB ?_; (with_reducible refine (gooseneckref01_hulls.calls k _ _ l0 _ _ l1 t101 _ ?side1 ?side2 ?side3 ?side4 A3.out).mono ?_); (case side1 => exact cB1 HR0); (case side2 => exact HC0.out); (case side3 => exact cB1 HR1); (case side4 => exact HC1.out); rintro e w7 ⟨rfl, hb⟩; refine ⟨_, rfl, ?_⟩; replace HB := Aside0.mk (below_step (bB0 HB) hb); (try clear hb); (try clear hb2); (try clear hk); (try clear hi)) | ((with_reducible refine gate_callee (f := 102) rfl ?_); refine goesL_ (some 14) rfl rfl Try.func102 (by kernel_rfl) rfl #[.slice A0 l0.length c0, .slice A1 l1.length c1] rfl mB ?_; (with_reducible refine (gooseneckref01_Meets.calls k _ _ l0 _ _ l1 true _ ?side1 ?side2 ?side3 ?side4 A5.out).mono ?_); (case side1 => exact cB HR0 HB); (case side2 => exact HC0.out); (case side3 => exact cB HR1 HB); (case side4 => exact HC1.out); rintro e w8 ⟨rfl, hb⟩; refine ⟨_, rfl, ?_⟩; replace HB := Aside0.mk (below_step (bB0 HB) hb); (try clear hb); (try clear hb2); (try clear hk); (try clear hi)))
   go_ret
   exact ⟨eB, bB0 HB⟩
  ·replace c6 := Bool.eq_false_iff.mpr c6
   subst c6
   have H1 : (some 0) = some r := by rw [if_neg (show ¬ (false = true) by decide)] at H; exact H
   clear H
   have H := H1
   clear H1
   obtain rfl := Option.some.inj H
   go_enter Try.func65, Try.ntmps65
   go_wp2_with (first | ((with_reducible refine gate_callee (f := 97) rfl ?_); refine goesL_ (some 8) rfl rfl Try.func97 (by kernel_rfl) rfl #[.slice A0 l0.length c0, .slice A1 l1.length c1] rfl mB ?_; (with_reducible refine (gooseneckref01_hulls.calls k _ _ l0 _ _ l1 t101 _ ?side1 ?side2 ?side3 ?side4 A3.out).mono ?_); (case side1 => exact cB1 HR0); (case side2 => exact HC0.out); (case side3 => exact cB1 HR1); (case side4 => exact HC1.out); rintro e w9 ⟨rfl, hb⟩; refine ⟨_, rfl, ?_⟩; replace HB := Aside0.mk (below_step (bB0 HB) hb); (try clear hb); (try clear hb2); (try clear hk); (try clear hi)) | ((with_reducible refine gate_callee (f := 102) rfl ?_); refine goesL_ (some 14) rfl rfl Try.func102 (by kernel_rfl) rfl #[.slice A0 l0.length c0, .slice A1 l1.length c1] rfl mB ?_; (with_reducible refine (gooseneckref01_Meets.calls k _ _ l0 _ _ l1 false _ ?side1 ?side2 ?side3 ?side4 A5.out).mono ?_); (case side1 => exact cB HR0 HB); (case side2 => exact HC0.out); (case side3 => exact cB HR1 HB); (case side4 => exact HC1.out); rintro e w10 ⟨rfl, hb⟩; refine ⟨_, rfl, ?_⟩; replace HB := Aside0.mk (below_step (bB0 HB) hb); (try clear hb); (try clear hb2); (try clear hk); (try clear hi)))
   go_ret
   exact ⟨eB, bB0 HB⟩
 ·rw [if_neg c4] at H
  have c4b0 : (t101 == 0) = false := beq_eq_false_iff_ne.mpr c4
  have c4b1 : (t101 != 0) = true := bne_iff_ne.mpr c4
  obtain rfl := Option.some.inj H
  go_enter Try.func65, Try.ntmps65
  go_wp2_with (first | ((with_reducible refine gate_callee (f := 97) rfl ?_); refine goesL_ (some 8) rfl rfl Try.func97 (by kernel_rfl) rfl #[.slice A0 l0.length c0, .slice A1 l1.length c1] rfl mB ?_; (with_reducible refine (gooseneckref01_hulls.calls k _ _ l0 _ _ l1 t101 _ ?side1 ?side2 ?side3 ?side4 A3.out).mono ?_); (case side1 => exact cB1 HR0); (case side2 => exact HC0.out); (case side3 => exact cB1 HR1); (case side4 => exact HC1.out); rintro e w11 ⟨rfl, hb⟩; refine ⟨_, rfl, ?_⟩; replace HB := Aside0.mk (below_step (bB0 HB) hb); (try clear hb); (try clear hb2); (try clear hk); (try clear hi)))
  go_ret
  exact ⟨eB, bB0 HB⟩
end Go.Proofs.Ytegdcnjjelgpjaa.P
namespace Go.Proofs.Ytegdcnjjelgpjaa.P
open Go.RowKit Go.Proofs.YtegdcnjjelgpjaaW.PrintWords Go.Proofs.YtegdcnjjelgpjaaW.PrintLast Go.Proofs.YtegdcnjjelgpjaaW.PrintMore
attribute [local go_sem] max2_int min2_int max_two min_two max_three min_three max_four min_four   -- for this text's walks alone
set_option linter.unusedVariables false
set_option linter.unusedSimpArgs false
attribute [local go_sem high] eqA75
mutual
def goosenecklaw01_PlaneMeets.j0 : Nat → List (S23) → List (S23) → Bool → Int → Int → Int → Option (Bool)
 | 0, _, _, _, _, _, _ => none
 | k + 1, x0, x1, x43, x102000, x102001, x102002 => if x43 = true then ((goosenecklaw01_works.f k).bind fun t102 => (some t102)) else ((plane_Meet.f x0 x1).bind fun bt103 => ((gooseneckref01_Meet.f k x0 x1).bind fun bt105 => ((plane_Gap.f k x0 x1).bind fun bt107 => ((gooseneckref01_Gap.f k x0 x1).bind fun bt109 => (if (bt103.1 != bt105.1) = true then (goosenecklaw01_PlaneMeets.j1 k x0 x1 true) else (if bt103.2 = bt105.2 then (if bt107.1 = bt109.1 then (if bt107.2 = bt109.2 then ((plane_CheckPart.f k x0 x1 x102000 x102001 x102002).bind fun t111 => ((gooseneckref01_CheckPart.f k x0 x1 x102000 x102001 x102002).bind fun t112 => (goosenecklaw01_PlaneMeets.j1 k x0 x1 (t111 != t112)))) else (goosenecklaw01_PlaneMeets.j1 k x0 x1 true)) else (goosenecklaw01_PlaneMeets.j1 k x0 x1 true)) else (goosenecklaw01_PlaneMeets.j1 k x0 x1 true)))))))
def goosenecklaw01_PlaneMeets.j1 : Nat → List (S23) → List (S23) → Bool → Option (Bool)
 | 0, _, _, _ => none
 | k + 1, x0, x1, x97 => if x97 = true then (some false) else ((plane_Part.f x0 x1).bind fun bt113 => ((gooseneckref01_Part.f k x0 x1).bind fun t118 => (if bt113.2.2.2 = t118 then (if bt113.2.2.2 = 0 then ((gooseneckref01_CheckPart.f k x0 x1 bt113.1 bt113.2.1 bt113.2.2.1).bind fun t119 => (if t119 = 0 then ((plane_CheckPart.f k x0 x1 bt113.1 bt113.2.1 bt113.2.2.1).bind fun t120 => (if t120 = 0 then ((goosenecklaw01_works.f k).bind fun t121 => (some t121)) else (some false))) else (some false))) else (if (bt113.1 == 0 && (bt113.2.1 == 0 && (bt113.2.2.1 == 0))) = true then ((goosenecklaw01_works.f k).bind fun t122 => (some t122)) else (some false))) else (some false))))
end
def goosenecklaw01_PlaneMeets.f (k : Nat) (l0 : List (S23)) (l1 : List (S23)) (a2_0 : Int) (a2_1 : Int) (a2_2 : Int) : Option (Bool) := if (l0.length : Int) > 20 then (if (l0.length : Int) ≤ 256 then (goosenecklaw01_PlaneMeets.j0 k l0 l1 true a2_0 a2_1 a2_2) else (if (l1.length : Int) > 20 then (if (l1.length : Int) ≤ 256 then (goosenecklaw01_PlaneMeets.j0 k l0 l1 true a2_0 a2_1 a2_2) else (if (l0.length : Int) > 400 then (goosenecklaw01_PlaneMeets.j0 k l0 l1 true a2_0 a2_1 a2_2) else (goosenecklaw01_PlaneMeets.j0 k l0 l1 (decide ((l1.length : Int) > 400)) a2_0 a2_1 a2_2))) else (if (l0.length : Int) > 400 then (goosenecklaw01_PlaneMeets.j0 k l0 l1 true a2_0 a2_1 a2_2) else (goosenecklaw01_PlaneMeets.j0 k l0 l1 (decide ((l1.length : Int) > 400)) a2_0 a2_1 a2_2)))) else (if (l1.length : Int) > 20 then (if (l1.length : Int) ≤ 256 then (goosenecklaw01_PlaneMeets.j0 k l0 l1 true a2_0 a2_1 a2_2) else (if (l0.length : Int) > 400 then (goosenecklaw01_PlaneMeets.j0 k l0 l1 true a2_0 a2_1 a2_2) else (goosenecklaw01_PlaneMeets.j0 k l0 l1 (decide ((l1.length : Int) > 400)) a2_0 a2_1 a2_2))) else (if (l0.length : Int) > 400 then (goosenecklaw01_PlaneMeets.j0 k l0 l1 true a2_0 a2_1 a2_2) else (goosenecklaw01_PlaneMeets.j0 k l0 l1 (decide ((l1.length : Int) > 400)) a2_0 a2_1 a2_2)))
theorem goosenecklaw01_PlaneMeets.mono_l : ∀ k, (∀ y0 y1 y2 y3 y4 y5, LeO (goosenecklaw01_PlaneMeets.j0 k y0 y1 y2 y3 y4 y5) (goosenecklaw01_PlaneMeets.j0 (k + 1) y0 y1 y2 y3 y4 y5)) ∧ (∀ y0 y1 y2, LeO (goosenecklaw01_PlaneMeets.j1 k y0 y1 y2) (goosenecklaw01_PlaneMeets.j1 (k + 1) y0 y1 y2))
 | 0 => ⟨fun _ _ _ _ _ _ r h => by simp [goosenecklaw01_PlaneMeets.j0] at h, fun _ _ _ r h => by simp [goosenecklaw01_PlaneMeets.j1] at h⟩
 | k + 1 => by
  obtain ⟨ih0, ih1⟩ := goosenecklaw01_PlaneMeets.mono_l k
  refine ⟨?_, ?_⟩
  ·intro y0 y1 y2 y3 y4 y5
   unfold goosenecklaw01_PlaneMeets.j0
   repeat' first
   | (with_reducible exact ih0 _ _ _ _ _ _)
   | (with_reducible exact ih1 _ _ _)
   | (with_reducible exact goosenecklaw01_works.mono _)
   | (with_reducible exact gooseneckref01_CheckPart.mono _ _ _ _ _ _)
   | (with_reducible exact gooseneckref01_Gap.mono _ _ _)
   | (with_reducible exact gooseneckref01_Meet.mono _ _ _)
   | (with_reducible exact gooseneckref01_Part.mono _ _ _)
   | (with_reducible exact plane_CheckPart.mono _ _ _ _ _ _)
   | (with_reducible exact plane_Gap.mono _ _ _)
   | (with_reducible exact LeO.refl _)
   | (with_reducible exact LeO.none _)
   | (with_reducible refine LeO.ite ?_ ?_)
   | (with_reducible refine LeO.bind ?_ (fun _ => ?_))
   | exact ih0 _ _ _ _ _ _
   | exact ih1 _ _ _
   | exact goosenecklaw01_works.mono _
   | exact gooseneckref01_CheckPart.mono _ _ _ _ _ _
   | exact gooseneckref01_Gap.mono _ _ _
   | exact gooseneckref01_Meet.mono _ _ _
   | exact gooseneckref01_Part.mono _ _ _
   | exact plane_CheckPart.mono _ _ _ _ _ _
   | exact plane_Gap.mono _ _ _
   | exact LeO.none _
   | refine LeO.ite ?_ ?_
   | refine LeO.bind ?_ (fun _ => ?_)
  ·intro y0 y1 y2
   unfold goosenecklaw01_PlaneMeets.j1
   repeat' first
   | (with_reducible exact ih0 _ _ _ _ _ _)
   | (with_reducible exact ih1 _ _ _)
   | (with_reducible exact goosenecklaw01_works.mono _)
   | (with_reducible exact gooseneckref01_CheckPart.mono _ _ _ _ _ _)
   | (with_reducible exact gooseneckref01_Gap.mono _ _ _)
   | (with_reducible exact gooseneckref01_Meet.mono _ _ _)
   | (with_reducible exact gooseneckref01_Part.mono _ _ _)
   | (with_reducible exact plane_CheckPart.mono _ _ _ _ _ _)
   | (with_reducible exact plane_Gap.mono _ _ _)
   | (with_reducible exact LeO.refl _)
   | (with_reducible exact LeO.none _)
   | (with_reducible refine LeO.ite ?_ ?_)
   | (with_reducible refine LeO.bind ?_ (fun _ => ?_))
   | exact ih0 _ _ _ _ _ _
   | exact ih1 _ _ _
   | exact goosenecklaw01_works.mono _
   | exact gooseneckref01_CheckPart.mono _ _ _ _ _ _
   | exact gooseneckref01_Gap.mono _ _ _
   | exact gooseneckref01_Meet.mono _ _ _
   | exact gooseneckref01_Part.mono _ _ _
   | exact plane_CheckPart.mono _ _ _ _ _ _
   | exact plane_Gap.mono _ _ _
   | exact LeO.none _
   | refine LeO.ite ?_ ?_
   | refine LeO.bind ?_ (fun _ => ?_)
theorem goosenecklaw01_PlaneMeets.mono : ∀ a0 a1 a2 a3 a4 k, LeO (goosenecklaw01_PlaneMeets.f k a0 a1 a2 a3 a4) (goosenecklaw01_PlaneMeets.f (k + 1) a0 a1 a2 a3 a4) := by
 intro a0 a1 a2 a3 a4 k
 obtain ⟨ih0, ih1⟩ := goosenecklaw01_PlaneMeets.mono_l k
 unfold goosenecklaw01_PlaneMeets.f
 repeat' first
   | (with_reducible exact ih0 _ _ _ _ _ _)
   | (with_reducible exact ih1 _ _ _)
   | (with_reducible exact goosenecklaw01_works.mono _)
   | (with_reducible exact gooseneckref01_CheckPart.mono _ _ _ _ _ _)
   | (with_reducible exact gooseneckref01_Gap.mono _ _ _)
   | (with_reducible exact gooseneckref01_Meet.mono _ _ _)
   | (with_reducible exact gooseneckref01_Part.mono _ _ _)
   | (with_reducible exact plane_CheckPart.mono _ _ _ _ _ _)
   | (with_reducible exact plane_Gap.mono _ _ _)
   | (with_reducible exact LeO.refl _)
   | (with_reducible exact LeO.none _)
   | (with_reducible refine LeO.ite ?_ ?_)
   | (with_reducible refine LeO.bind ?_ (fun _ => ?_))
   | exact ih0 _ _ _ _ _ _
   | exact ih1 _ _ _
   | exact goosenecklaw01_works.mono _
   | exact gooseneckref01_CheckPart.mono _ _ _ _ _ _
   | exact gooseneckref01_Gap.mono _ _ _
   | exact gooseneckref01_Meet.mono _ _ _
   | exact gooseneckref01_Part.mono _ _ _
   | exact plane_CheckPart.mono _ _ _ _ _ _
   | exact plane_Gap.mono _ _ _
   | exact LeO.none _
   | refine LeO.ite ?_ ?_
   | refine LeO.bind ?_ (fun _ => ?_)
def goosenecklaw01_PlaneMeets.T7 : Bool × List (List Nat × List Nat) := (true, [([], []), ([], []), ([0, 1], [0, 1]), ([2], [2]), ([3], [3]), ([3], [3]), ([4, 5, 3], [3, 4, 5]), ([3, 6], [3, 6]), ([7, 3], [7]), ([8], [8]), ([8], [8]), ([9, 10, 8], [8, 9, 10]), ([8, 11], [8, 11]), ([12, 8], [12]), ([13], [13]), ([13], [13]), ([14, 15, 13], [13, 14, 15]), ([13, 16], [13, 16]), ([17, 13], [17]), ([18], [18]), ([18], [18]), ([18], [18]), ([19, 20, 21, 18, 18], [18, 19, 20, 21]), ([18], [18]), ([18], [18]), ([18], [18]), ([23, 24, 25, 22, 18], [18, 23, 24, 25]), ([22, 26, 18], [18, 22, 26]), ([18, 27], [18, 27])])
def goosenecklaw01_PlaneMeets.B7 : List Nat := [0, 0, 3, 7, 15, 15, 63, 127, 255, 511, 511, 2047, 4095, 8191, 16383, 16383, 65535, 131071, 262143, 524287, 524287, 524287, 4194303, 524287, 524287, 524287, 67108863, 134217727, 268435455]
theorem goosenecklaw01_PlaneMeets.tab7 : rtab .any (opsOf Try.f12 7) = goosenecklaw01_PlaneMeets.T7 := by kernel_rfl
theorem goosenecklaw01_PlaneMeets.bits7 : waitsOk goosenecklaw01_PlaneMeets.T7.2 goosenecklaw01_PlaneMeets.B7 = true := by kernel_rfl
set_option maxHeartbeats 8000000 in
set_option maxRecDepth 100000 in
theorem goosenecklaw01_PlaneMeets.calls (k : Nat) (A0 : Option Addr) (c0 : Nat) (l0 : List (S23)) (A1 : Option Addr) (c1 : Nat) (l1 : List (S23)) (a2_0 : Int) (a2_1 : Int) (a2_2 : Int) (r : Bool) (w : World) (hr0 : Kd.C k23 w A0 l0.length l0) (hc0 : l0.length ≤ c0) (hr1 : Kd.C k23 w A1 l1.length l1) (hc1 : l1.length ≤ c1) (hr_ : Aside0 (r = true)) (h : goosenecklaw01_PlaneMeets.f k l0 l1 a2_0 a2_1 a2_2 = some r) :
  Calls Try.prog 12 #[.slice A0 l0.length c0, .slice A1 l1.length c1, .agg #[.int .i64 a2_0, .int .i64 a2_1, .int .i64 a2_2]] w fun e w' => e = .returned (.bool r) ∧ Below w.heap.size w w' := by
 have hu75 := Try.underlying75
 have HR0 := Aside0.mk hr0
 have HC0 := Aside0.mk hc0
 clear hr0 hc0
 have HR1 := Aside0.mk hr1
 have HC1 := Aside0.mk hc1
 clear hr1 hc1
 have HB := Aside0.mk (Below.refl w.heap.size w)
 have H : (if (l0.length : Int) > 20 then (if (l0.length : Int) ≤ 256 then (goosenecklaw01_PlaneMeets.j0 k l0 l1 true a2_0 a2_1 a2_2) else (if (l1.length : Int) > 20 then (if (l1.length : Int) ≤ 256 then (goosenecklaw01_PlaneMeets.j0 k l0 l1 true a2_0 a2_1 a2_2) else (if (l0.length : Int) > 400 then (goosenecklaw01_PlaneMeets.j0 k l0 l1 true a2_0 a2_1 a2_2) else (goosenecklaw01_PlaneMeets.j0 k l0 l1 (decide ((l1.length : Int) > 400)) a2_0 a2_1 a2_2))) else (if (l0.length : Int) > 400 then (goosenecklaw01_PlaneMeets.j0 k l0 l1 true a2_0 a2_1 a2_2) else (goosenecklaw01_PlaneMeets.j0 k l0 l1 (decide ((l1.length : Int) > 400)) a2_0 a2_1 a2_2)))) else (if (l1.length : Int) > 20 then (if (l1.length : Int) ≤ 256 then (goosenecklaw01_PlaneMeets.j0 k l0 l1 true a2_0 a2_1 a2_2) else (if (l0.length : Int) > 400 then (goosenecklaw01_PlaneMeets.j0 k l0 l1 true a2_0 a2_1 a2_2) else (goosenecklaw01_PlaneMeets.j0 k l0 l1 (decide ((l1.length : Int) > 400)) a2_0 a2_1 a2_2))) else (if (l0.length : Int) > 400 then (goosenecklaw01_PlaneMeets.j0 k l0 l1 true a2_0 a2_1 a2_2) else (goosenecklaw01_PlaneMeets.j0 k l0 l1 (decide ((l1.length : Int) > 400)) a2_0 a2_1 a2_2)))) = some r := h
 clear h
 have HC4 := Aside0.mk H
 clear H
 go_enter Try.func12, Try.ntmps12
 go_upto_region 1 with (first | ((with_reducible refine gate_dst (N := 5) rfl ?_); (try (refine gate_guard (by rfl) ?_; dsimp only)); refine boxE (N := 5) (cs := #[.int .i64 a2_0, .int .i64 a2_1, .int .i64 a2_2]) (t := 75) ?_; intro gb101 hg w5 hbox hb; have n0_ := Aside0.mk (below_step (bB0 HB) hb); have BK101 := Aside0.mk (hbox); have GW101 := Aside0.mk (szB hg (below_size (bB0 HB))); have GE101 := GW101; clear HB; have HB := n0_; clear n0_; clear hb hbox hg))
 (try simp only [Act.put, List.setIfInBounds_toArray, List.set_cons_zero, List.set_cons_succ])
 go_cut [43] (fun v43 wc => ∃ (kq : Nat) (x43_3 : Bool), v43 = .bool x43_3 ∧ Aside0 (goosenecklaw01_PlaneMeets.j0 kq l0 l1 x43_3 a2_0 a2_1 a2_2 = some r) ∧ Aside0 (kq ≤ k) ∧ Aside0 (wc.heap[gb101]? = some (.cells #[.int .i64 a2_0, .int .i64 a2_1, .int .i64 a2_2] 75 (0, 0))) ∧ Aside0 (Below w.heap.size w wc))
 case first =>
  have H := HC4.out
  clear HC4
  by_cases c6 : (l0.length : Int) > 20
  ·rw [if_pos c6] at H
   have c6b0 : decide (20 < (l0.length : Int)) = true := decide_eq_true c6
   have c6b1 : decide (20 < l0.length) = true := decide_eq_true (by omega)
   clear c6
   (first | rw [c6b0] | (simp only [i64_w, i32_w]; rw [c6b0]) | skip)
   by_cases c7 : (l0.length : Int) ≤ 256
   ·rw [if_pos c7] at H
    have c7b0 : decide ((l0.length : Int) ≤ 256) = true := decide_eq_true c7
    have c7b1 : decide (l0.length ≤ 256) = true := decide_eq_true (by omega)
    clear c7
    have H' := Aside0.mk H
    clear H
    go_wp2
    go_meet
    case rel => exact ⟨_, (true), sB, H', ⟨by first | omega | exact Nat.le_refl _⟩, ⟨by (with_reducible repeat (first | refine blk_drewN ?_ _ | refine blk_drew ?_ | refine blk_alloc ?_ _)); exact BK101.out⟩, ⟨bB1 HB GE101⟩⟩
   ·rw [if_neg c7] at H
    have c7b0 : decide ((l0.length : Int) ≤ 256) = false := decide_eq_false c7
    have c7b1 : decide (l0.length ≤ 256) = false := decide_eq_false (by omega)
    clear c7
    by_cases c8 : (l1.length : Int) > 20
    ·rw [if_pos c8] at H
     have c8b0 : decide (20 < (l1.length : Int)) = true := decide_eq_true c8
     have c8b1 : decide (20 < l1.length) = true := decide_eq_true (by omega)
     clear c8
     by_cases c9 : (l1.length : Int) ≤ 256
     ·rw [if_pos c9] at H
      have c9b0 : decide ((l1.length : Int) ≤ 256) = true := decide_eq_true c9
      have c9b1 : decide (l1.length ≤ 256) = true := decide_eq_true (by omega)
      clear c9
      have H' := Aside0.mk H
      clear H
      go_wp2
      go_meet
      case rel => exact ⟨_, (true), sB, H', ⟨by first | omega | exact Nat.le_refl _⟩, ⟨by (with_reducible repeat (first | refine blk_drewN ?_ _ | refine blk_drew ?_ | refine blk_alloc ?_ _)); exact BK101.out⟩, ⟨bB1 HB GE101⟩⟩
     ·rw [if_neg c9] at H
      have c9b0 : decide ((l1.length : Int) ≤ 256) = false := decide_eq_false c9
      have c9b1 : decide (l1.length ≤ 256) = false := decide_eq_false (by omega)
      clear c9
      by_cases c10 : (l0.length : Int) > 400
      ·rw [if_pos c10] at H
       have c10b0 : decide (400 < (l0.length : Int)) = true := decide_eq_true c10
       have c10b1 : decide (400 < l0.length) = true := decide_eq_true (by omega)
       clear c10
       have H' := Aside0.mk H
       clear H
       go_wp2
       go_meet
       case rel => exact ⟨_, (true), sB, H', ⟨by first | omega | exact Nat.le_refl _⟩, ⟨by (with_reducible repeat (first | refine blk_drewN ?_ _ | refine blk_drew ?_ | refine blk_alloc ?_ _)); exact BK101.out⟩, ⟨bB1 HB GE101⟩⟩
      ·rw [if_neg c10] at H
       have c10b0 : decide (400 < (l0.length : Int)) = false := decide_eq_false c10
       have c10b1 : decide (400 < l0.length) = false := decide_eq_false (by omega)
       clear c10
       have H' := Aside0.mk H
       clear H
       go_wp2
       go_meet
       case rel => exact ⟨_, (decide ((l1.length : Int) > 400)), sB, H', ⟨by first | omega | exact Nat.le_refl _⟩, ⟨by (with_reducible repeat (first | refine blk_drewN ?_ _ | refine blk_drew ?_ | refine blk_alloc ?_ _)); exact BK101.out⟩, ⟨bB1 HB GE101⟩⟩
    ·rw [if_neg c8] at H
     have c8b0 : decide (20 < (l1.length : Int)) = false := decide_eq_false c8
     have c8b1 : decide (20 < l1.length) = false := decide_eq_false (by omega)
     clear c8
     by_cases c11 : (l0.length : Int) > 400
     ·rw [if_pos c11] at H
      have c11b0 : decide (400 < (l0.length : Int)) = true := decide_eq_true c11
      have c11b1 : decide (400 < l0.length) = true := decide_eq_true (by omega)
      clear c11
      have H' := Aside0.mk H
      clear H
      go_wp2
      go_meet
      case rel => exact ⟨_, (true), sB, H', ⟨by first | omega | exact Nat.le_refl _⟩, ⟨by (with_reducible repeat (first | refine blk_drewN ?_ _ | refine blk_drew ?_ | refine blk_alloc ?_ _)); exact BK101.out⟩, ⟨bB1 HB GE101⟩⟩
     ·rw [if_neg c11] at H
      have c11b0 : decide (400 < (l0.length : Int)) = false := decide_eq_false c11
      have c11b1 : decide (400 < l0.length) = false := decide_eq_false (by omega)
      clear c11
      have H' := Aside0.mk H
      clear H
      go_wp2
      go_meet
      case rel => exact ⟨_, (decide ((l1.length : Int) > 400)), sB, H', ⟨by first | omega | exact Nat.le_refl _⟩, ⟨by (with_reducible repeat (first | refine blk_drewN ?_ _ | refine blk_drew ?_ | refine blk_alloc ?_ _)); exact BK101.out⟩, ⟨bB1 HB GE101⟩⟩
  ·rw [if_neg c6] at H
   have c6b0 : decide (20 < (l0.length : Int)) = false := decide_eq_false c6
   have c6b1 : decide (20 < l0.length) = false := decide_eq_false (by omega)
   clear c6
   (first | rw [c6b0] | (simp only [i64_w, i32_w]; rw [c6b0]) | skip)
   by_cases c12 : (l1.length : Int) > 20
   ·rw [if_pos c12] at H
    have c12b0 : decide (20 < (l1.length : Int)) = true := decide_eq_true c12
    have c12b1 : decide (20 < l1.length) = true := decide_eq_true (by omega)
    clear c12
    by_cases c13 : (l1.length : Int) ≤ 256
    ·rw [if_pos c13] at H
     have c13b0 : decide ((l1.length : Int) ≤ 256) = true := decide_eq_true c13
     have c13b1 : decide (l1.length ≤ 256) = true := decide_eq_true (by omega)
     clear c13
     have H' := Aside0.mk H
     clear H
     go_wp2
     go_meet
     case rel => exact ⟨_, (true), sB, H', ⟨by first | omega | exact Nat.le_refl _⟩, ⟨by (with_reducible repeat (first | refine blk_drewN ?_ _ | refine blk_drew ?_ | refine blk_alloc ?_ _)); exact BK101.out⟩, ⟨bB1 HB GE101⟩⟩
    ·rw [if_neg c13] at H
     have c13b0 : decide ((l1.length : Int) ≤ 256) = false := decide_eq_false c13
     have c13b1 : decide (l1.length ≤ 256) = false := decide_eq_false (by omega)
     clear c13
     by_cases c14 : (l0.length : Int) > 400
     ·rw [if_pos c14] at H
      have c14b0 : decide (400 < (l0.length : Int)) = true := decide_eq_true c14
      have c14b1 : decide (400 < l0.length) = true := decide_eq_true (by omega)
      clear c14
      have H' := Aside0.mk H
      clear H
      go_wp2
      go_meet
      case rel => exact ⟨_, (true), sB, H', ⟨by first | omega | exact Nat.le_refl _⟩, ⟨by (with_reducible repeat (first | refine blk_drewN ?_ _ | refine blk_drew ?_ | refine blk_alloc ?_ _)); exact BK101.out⟩, ⟨bB1 HB GE101⟩⟩
     ·rw [if_neg c14] at H
      have c14b0 : decide (400 < (l0.length : Int)) = false := decide_eq_false c14
      have c14b1 : decide (400 < l0.length) = false := decide_eq_false (by omega)
      clear c14
      have H' := Aside0.mk H
      clear H
      go_wp2
      go_meet
      case rel => exact ⟨_, (decide ((l1.length : Int) > 400)), sB, H', ⟨by first | omega | exact Nat.le_refl _⟩, ⟨by (with_reducible repeat (first | refine blk_drewN ?_ _ | refine blk_drew ?_ | refine blk_alloc ?_ _)); exact BK101.out⟩, ⟨bB1 HB GE101⟩⟩
   ·rw [if_neg c12] at H
    have c12b0 : decide (20 < (l1.length : Int)) = false := decide_eq_false c12
    have c12b1 : decide (20 < l1.length) = false := decide_eq_false (by omega)
    clear c12
    by_cases c15 : (l0.length : Int) > 400
    ·rw [if_pos c15] at H
     have c15b0 : decide (400 < (l0.length : Int)) = true := decide_eq_true c15
     have c15b1 : decide (400 < l0.length) = true := decide_eq_true (by omega)
     clear c15
     have H' := Aside0.mk H
     clear H
     go_wp2
     go_meet
     case rel => exact ⟨_, (true), sB, H', ⟨by first | omega | exact Nat.le_refl _⟩, ⟨by (with_reducible repeat (first | refine blk_drewN ?_ _ | refine blk_drew ?_ | refine blk_alloc ?_ _)); exact BK101.out⟩, ⟨bB1 HB GE101⟩⟩
    ·rw [if_neg c15] at H
     have c15b0 : decide (400 < (l0.length : Int)) = false := decide_eq_false c15
     have c15b1 : decide (400 < l0.length) = false := decide_eq_false (by omega)
     clear c15
     have H' := Aside0.mk H
     clear H
     go_wp2
     go_meet
     case rel => exact ⟨_, (decide ((l1.length : Int) > 400)), sB, H', ⟨by first | omega | exact Nat.le_refl _⟩, ⟨by (with_reducible repeat (first | refine blk_drewN ?_ _ | refine blk_drew ?_ | refine blk_alloc ?_ _)); exact BK101.out⟩, ⟨bB1 HB GE101⟩⟩
 case rest =>
  clear HC4
  try clear c1
  try clear p2
  try clear c6
  try clear c6b0
  try clear c6b1
  try clear c7
  try clear c7b0
  try clear c7b1
  try clear c8
  try clear c8b0
  try clear c8b1
  try clear c9
  try clear c9b0
  try clear c9b1
  try clear c10
  try clear c10b0
  try clear c10b1
  try clear c11
  try clear c11b0
  try clear c11b1
  try clear c12
  try clear c12b0
  try clear c12b1
  try clear c13
  try clear c13b0
  try clear c13b1
  try clear c14
  try clear c14b0
  try clear c14b1
  try clear c15
  try clear c15b0
  try clear c15b1
  obtain ⟨kq, x43_3, rfl, HA, HJ3, BK101, HB⟩ := hcut
  cases kq with
  | zero => exact absurd HA.out (by simp [goosenecklaw01_PlaneMeets.j0])
  | succ kj3 =>
   have H := HA.out
   clear HA
   simp only [goosenecklaw01_PlaneMeets.j0] at H
   by_cases c16 : x43_3 = true
   ·subst c16
    have H1 : ((goosenecklaw01_works.f kj3).bind fun t102 => (some t102)) = some r := by rw [if_pos rfl] at H; exact H
    clear H
    have H := H1
    clear H1
    replace H := Option.bind_eq_some_iff.mp H
    obtain ⟨t102, A170, H⟩ := H
    replace H : (some t102) = some r := H
    have A17 := Aside0.mk A170
    clear A170
    obtain rfl := Option.some.inj H
    go_wp2_with (first | ((with_reducible refine gate_callee (f := 19) rfl ?_); refine goesL_ (some 44) rfl rfl Try.func19 (by kernel_rfl) rfl #[] rfl mB ?_; (with_reducible refine (goosenecklaw01_works.calls kj3  t102 _ A17.out).mono ?_); rintro e w18 ⟨rfl, hb⟩; refine ⟨_, rfl, ?_⟩; replace BK101 := Aside0.mk (blk_below (kB BK101) hb); replace HB := Aside0.mk (below_step (bB1 HB GE101) hb); (try clear hb); (try clear hb2); (try clear hk); (try clear hi)))
    go_ret
    exact ⟨eB, bB1 HB GE101⟩
   ·replace c16 := Bool.eq_false_iff.mpr c16
    subst c16
    have H1 : ((plane_Meet.f l0 l1).bind fun bt103 => ((gooseneckref01_Meet.f kj3 l0 l1).bind fun bt105 => ((plane_Gap.f kj3 l0 l1).bind fun bt107 => ((gooseneckref01_Gap.f kj3 l0 l1).bind fun bt109 => (if (bt103.1 != bt105.1) = true then (goosenecklaw01_PlaneMeets.j1 kj3 l0 l1 true) else (if bt103.2 = bt105.2 then (if bt107.1 = bt109.1 then (if bt107.2 = bt109.2 then ((plane_CheckPart.f kj3 l0 l1 a2_0 a2_1 a2_2).bind fun t111 => ((gooseneckref01_CheckPart.f kj3 l0 l1 a2_0 a2_1 a2_2).bind fun t112 => (goosenecklaw01_PlaneMeets.j1 kj3 l0 l1 (t111 != t112)))) else (goosenecklaw01_PlaneMeets.j1 kj3 l0 l1 true)) else (goosenecklaw01_PlaneMeets.j1 kj3 l0 l1 true)) else (goosenecklaw01_PlaneMeets.j1 kj3 l0 l1 true))))))) = some r := by rw [if_neg (show ¬ (false = true) by decide)] at H; exact H
    clear H
    have H := H1
    clear H1
    replace H := Option.bind_eq_some_iff.mp H
    obtain ⟨⟨t103, t104⟩, A190, H⟩ := H
    replace H : ((gooseneckref01_Meet.f kj3 l0 l1).bind fun bt105 => ((plane_Gap.f kj3 l0 l1).bind fun bt107 => ((gooseneckref01_Gap.f kj3 l0 l1).bind fun bt109 => (if (t103 != bt105.1) = true then (goosenecklaw01_PlaneMeets.j1 kj3 l0 l1 true) else (if t104 = bt105.2 then (if bt107.1 = bt109.1 then (if bt107.2 = bt109.2 then ((plane_CheckPart.f kj3 l0 l1 a2_0 a2_1 a2_2).bind fun t111 => ((gooseneckref01_CheckPart.f kj3 l0 l1 a2_0 a2_1 a2_2).bind fun t112 => (goosenecklaw01_PlaneMeets.j1 kj3 l0 l1 (t111 != t112)))) else (goosenecklaw01_PlaneMeets.j1 kj3 l0 l1 true)) else (goosenecklaw01_PlaneMeets.j1 kj3 l0 l1 true)) else (goosenecklaw01_PlaneMeets.j1 kj3 l0 l1 true)))))) = some r := H
    have A19 := Aside0.mk A190
    clear A190
    replace H := Option.bind_eq_some_iff.mp H
    obtain ⟨⟨t105, t106⟩, A200, H⟩ := H
    replace H : ((plane_Gap.f kj3 l0 l1).bind fun bt107 => ((gooseneckref01_Gap.f kj3 l0 l1).bind fun bt109 => (if (t103 != t105) = true then (goosenecklaw01_PlaneMeets.j1 kj3 l0 l1 true) else (if t104 = t106 then (if bt107.1 = bt109.1 then (if bt107.2 = bt109.2 then ((plane_CheckPart.f kj3 l0 l1 a2_0 a2_1 a2_2).bind fun t111 => ((gooseneckref01_CheckPart.f kj3 l0 l1 a2_0 a2_1 a2_2).bind fun t112 => (goosenecklaw01_PlaneMeets.j1 kj3 l0 l1 (t111 != t112)))) else (goosenecklaw01_PlaneMeets.j1 kj3 l0 l1 true)) else (goosenecklaw01_PlaneMeets.j1 kj3 l0 l1 true)) else (goosenecklaw01_PlaneMeets.j1 kj3 l0 l1 true))))) = some r := H
    have A20 := Aside0.mk A200
    clear A200
    replace H := Option.bind_eq_some_iff.mp H
    obtain ⟨⟨t107, t108⟩, A210, H⟩ := H
    replace H : ((gooseneckref01_Gap.f kj3 l0 l1).bind fun bt109 => (if (t103 != t105) = true then (goosenecklaw01_PlaneMeets.j1 kj3 l0 l1 true) else (if t104 = t106 then (if t107 = bt109.1 then (if t108 = bt109.2 then ((plane_CheckPart.f kj3 l0 l1 a2_0 a2_1 a2_2).bind fun t111 => ((gooseneckref01_CheckPart.f kj3 l0 l1 a2_0 a2_1 a2_2).bind fun t112 => (goosenecklaw01_PlaneMeets.j1 kj3 l0 l1 (t111 != t112)))) else (goosenecklaw01_PlaneMeets.j1 kj3 l0 l1 true)) else (goosenecklaw01_PlaneMeets.j1 kj3 l0 l1 true)) else (goosenecklaw01_PlaneMeets.j1 kj3 l0 l1 true)))) = some r := H
    have A21 := Aside0.mk A210
    clear A210
    replace H := Option.bind_eq_some_iff.mp H
    obtain ⟨⟨t109, t110⟩, A220, H⟩ := H
    replace H : (if (t103 != t105) = true then (goosenecklaw01_PlaneMeets.j1 kj3 l0 l1 true) else (if t104 = t106 then (if t107 = t109 then (if t108 = t110 then ((plane_CheckPart.f kj3 l0 l1 a2_0 a2_1 a2_2).bind fun t111 => ((gooseneckref01_CheckPart.f kj3 l0 l1 a2_0 a2_1 a2_2).bind fun t112 => (goosenecklaw01_PlaneMeets.j1 kj3 l0 l1 (t111 != t112)))) else (goosenecklaw01_PlaneMeets.j1 kj3 l0 l1 true)) else (goosenecklaw01_PlaneMeets.j1 kj3 l0 l1 true)) else (goosenecklaw01_PlaneMeets.j1 kj3 l0 l1 true))) = some r := H
    have A22 := Aside0.mk A220
    clear A220
    have HC23 := Aside0.mk H
    clear H
    go_upto_region 7 with (first | ((with_reducible refine gate_callee (f := 58) rfl ?_); refine goesL_ (some 48) rfl rfl Try.func58 (by kernel_rfl) rfl #[.slice A0 l0.length c0, .slice A1 l1.length c1] rfl mB ?_; (with_reducible refine (plane_Meet.calls (fun k_ => k_ < w.heap.size) _ _ l0 (fun k_ => k_ < w.heap.size) _ _ l1 t103 t104 _ ?side1 ?side2 A19.out).mono ?_); (case side1 => exact Kd.V_mk HC0.out (Kd.F_below (Kd.C_F k23_heap HR0.out) (bB1 HB GE101))); (case side2 => exact Kd.V_mk HC1.out (Kd.F_below (Kd.C_F k23_heap HR1.out) (bB1 HB GE101))); rintro e w24 ⟨rfl, hb⟩; refine ⟨_, rfl, ?_⟩; replace BK101 := Aside0.mk (blk_below (kB BK101) hb); replace HB := Aside0.mk (below_step (bB1 HB GE101) hb); (try clear hb); (try clear hb2); (try clear hk); (try clear hi)) | ((with_reducible refine gate_callee (f := 59) rfl ?_); refine goesL_ (some 54) rfl rfl Try.func59 (by kernel_rfl) rfl #[.slice A0 l0.length c0, .slice A1 l1.length c1] rfl mB ?_; (with_reducible refine (gooseneckref01_Meet.calls kj3 _ _ l0 _ _ l1 t105 t106 _ ?side1 ?side2 ?side3 ?side4 A20.out).mono ?_); (case side1 => exact cB HR0 HB); (case side2 => exact HC0.out); (case side3 => exact cB HR1 HB); (case side4 => exact HC1.out); rintro e w25 ⟨rfl, hb⟩; refine ⟨_, rfl, ?_⟩; replace BK101 := Aside0.mk (blk_below (kB BK101) hb); replace HB := Aside0.mk (below_step (bB1 HB GE101) hb); (try clear hb); (try clear hb2); (try clear hk); (try clear hi)) | ((with_reducible refine gate_callee (f := 60) rfl ?_); refine goesL_ (some 60) rfl rfl Try.func60 (by kernel_rfl) rfl #[.slice A0 l0.length c0, .slice A1 l1.length c1] rfl mB ?_; (with_reducible refine (plane_Gap.calls kj3 (fun k_ => k_ < w.heap.size) _ _ l0 (fun k_ => k_ < w.heap.size) _ _ l1 t107 t108 _ ?side1 ?side2 A21.out).mono ?_); (case side1 => exact Kd.V_mk HC0.out (Kd.F_below (Kd.C_F k23_heap HR0.out) (bB1 HB GE101))); (case side2 => exact Kd.V_mk HC1.out (Kd.F_below (Kd.C_F k23_heap HR1.out) (bB1 HB GE101))); rintro e w26 ⟨rfl, hb⟩; refine ⟨_, rfl, ?_⟩; replace BK101 := Aside0.mk (blk_below (kB BK101) hb); replace HB := Aside0.mk (below_step (bB1 HB GE101) hb); (try clear hb); (try clear hb2); (try clear hk); (try clear hi)) | ((with_reducible refine gate_callee (f := 61) rfl ?_); refine goesL_ (some 66) rfl rfl Try.func61 (by kernel_rfl) rfl #[.slice A0 l0.length c0, .slice A1 l1.length c1] rfl mB ?_; (with_reducible refine (gooseneckref01_Gap.calls kj3 _ _ l0 _ _ l1 t109 t110 _ ?side1 ?side2 ?side3 ?side4 A22.out).mono ?_); (case side1 => exact cB HR0 HB); (case side2 => exact HC0.out); (case side3 => exact cB HR1 HB); (case side4 => exact HC1.out); rintro e w27 ⟨rfl, hb⟩; refine ⟨_, rfl, ?_⟩; replace BK101 := Aside0.mk (blk_below (kB BK101) hb); replace HB := Aside0.mk (below_step (bB1 HB GE101) hb); (try clear hb); (try clear hb2); (try clear hk); (try clear hi)))
    (try simp only [Act.put, List.setIfInBounds_toArray, List.set_cons_zero, List.set_cons_succ])
    go_cut [97] (fun v97 wc => ∃ (kq : Nat) (x97_22 : Bool), v97 = .bool x97_22 ∧ Aside0 (goosenecklaw01_PlaneMeets.j1 kq l0 l1 x97_22 = some r) ∧ Aside0 (kq ≤ kj3) ∧ Aside0 (wc.heap[gb101]? = some (.cells #[.int .i64 a2_0, .int .i64 a2_1, .int .i64 a2_2] 75 (0, 0))) ∧ Aside0 (Below w.heap.size w wc))
    case first =>
     have H := HC23.out
     clear HC23
     by_cases c28 : (t103 != t105) = true
     ·rw [if_pos c28] at H
      have c28b0 : (t103 != t105) = true := c28
      (try (have c28b1 : decide (t103 = t105) = false := by simpa using c28))
      (try (have c28b2 : (t103 == t105) = false := by simpa using c28))
      (try (have c28b3 : ¬ (t103 = t105) := by simpa using c28))
      clear c28
      (first | rw [c28b0] | (simp only [i64_w, i32_w]; rw [c28b0]) | skip)
      have H' := Aside0.mk H
      clear H
      try go_wp2
      replace BK101 := Aside0.mk (blk_drew BK101.out)
      replace HB := Aside0.mk (below_drew1 HB.out)
      refine start_ (n := 29) (S := fun w' => True) (ds := []) #[false, false, false, false, false, false, false, false, false, false, false, false, false, false, false, false, false, false, false, false, false, false, false, false, false, false, false, false, false] (by kernel_rfl) rfl rfl trivial (fun hHeld => ?_); refine with_tabW goosenecklaw01_PlaneMeets.tab7 goosenecklaw01_PlaneMeets.bits7 (fun HT_ HW_ => ?_)
      generalize w27.drew = w29 at BK101 HB hHeld ⊢
      refine pS 0 (some 69) HT_ ?_
      refine pS 1 (some 70) HT_ ?_
      refine pS 2 (some 71) HT_ ?_
      refine pS 3 (some 72) HT_ ?_
      refine nS 4 (some 73) HT_ ?_
      refine nS 5 (some 74) HT_ ?_
      refine nS 6 (some 75) HT_ ?_
      refine pS 7 (some 76) HT_ ?_
      refine pS 8 (some 77) HT_ ?_
      refine nS 9 (some 78) HT_ ?_
      refine nS 10 (some 79) HT_ ?_
      refine nS 11 (some 80) HT_ ?_
      refine pS 12 (some 81) HT_ ?_
      refine pS 13 (some 82) HT_ ?_
      refine nS 14 (some 83) HT_ ?_
      refine nS 15 (some 84) HT_ ?_
      refine nS 16 (some 85) HT_ ?_
      refine pS 17 (some 86) HT_ ?_
      refine pS 18 (some 87) HT_ ?_
      refine nS 19 (some 88) HT_ ?_
      refine nS 20 (some 89) HT_ ?_
      refine nS 21 (some 90) HT_ ?_
      refine nS 22 (some 91) HT_ ?_
      refine nS 23 (some 92) HT_ ?_
      refine nS 24 (some 93) HT_ ?_
      refine nS 25 (some 94) HT_ ?_
      refine nS 26 (some 95) HT_ ?_
      refine nS 27 (some 96) HT_ ?_
      refine pS 28 (some 97) HT_ ?_
      refine done_ (done_of HT_.out (by kernel_rfl)) ?_
      try go_wp2
      go_meet
      case rel => exact ⟨_, (true), sB, H', ⟨by have := HJ3.out; first | omega | exact Nat.le_refl _⟩, ⟨by (with_reducible repeat (first | refine blk_drewN ?_ _ | refine blk_drew ?_ | refine blk_alloc ?_ _)); exact BK101.out⟩, ⟨bB1 HB GE101⟩⟩
     ·rw [if_neg c28] at H
      have c28b0 : (t103 != t105) = false := by simpa using c28
      (try (have c28b1 : decide (t103 = t105) = true := by simpa using c28))
      (try (have c28b2 : (t103 == t105) = true := by simpa using c28))
      clear c28
      (first | rw [c28b0] | (simp only [i64_w, i32_w]; rw [c28b0]) | skip)
      by_cases c30 : t104 = t106
      ·rw [if_pos c30] at H
       have c30b0 : (t104 == t106) = true := beq_iff_eq.mpr c30
       have c30b1 : (t104 != t106) = false := bne_eq_false_iff_eq.mpr c30
       clear c30
       by_cases c31 : t107 = t109
       ·rw [if_pos c31] at H
        have c31b0 : (t107 == t109) = true := beq_iff_eq.mpr c31
        have c31b1 : (t107 != t109) = false := bne_eq_false_iff_eq.mpr c31
        clear c31
        by_cases c32 : t108 = t110
        ·rw [if_pos c32] at H
         have c32b0 : (t108 == t110) = true := beq_iff_eq.mpr c32
         have c32b1 : (t108 != t110) = false := bne_eq_false_iff_eq.mpr c32
         clear c32
         replace H := Option.bind_eq_some_iff.mp H
         obtain ⟨t111, A330, H⟩ := H
         replace H : ((gooseneckref01_CheckPart.f kj3 l0 l1 a2_0 a2_1 a2_2).bind fun t112 => (goosenecklaw01_PlaneMeets.j1 kj3 l0 l1 (t111 != t112))) = some r := H
         have A33 := Aside0.mk A330
         clear A330
         replace H := Option.bind_eq_some_iff.mp H
         obtain ⟨t112, A340, H⟩ := H
         replace H : (goosenecklaw01_PlaneMeets.j1 kj3 l0 l1 (t111 != t112)) = some r := H
         have A34 := Aside0.mk A340
         clear A340
         have H' := Aside0.mk H
         clear H
         try go_wp2
         replace BK101 := Aside0.mk (blk_drew BK101.out)
         replace HB := Aside0.mk (below_drew1 HB.out)
         refine start_ (n := 29) (S := fun w' => w'.cell? ⟨gb101, 0, none⟩ = some (.int .i64 a2_0) ∧ w'.cell? ⟨gb101, 1, none⟩ = some (.int .i64 a2_1) ∧ w'.cell? ⟨gb101, 2, none⟩ = some (.int .i64 a2_2)) (ds := []) #[false, false, false, false, false, false, false, false, false, false, false, false, false, false, false, false, false, false, false, false, false, false, false, false, false, false, false, false, false] (by kernel_rfl) rfl rfl ⟨(blk_cell BK101.out 0).trans rfl, (blk_cell BK101.out 1).trans rfl, (blk_cell BK101.out 2).trans rfl⟩ (fun hHeld => ?_); refine with_tabW goosenecklaw01_PlaneMeets.tab7 goosenecklaw01_PlaneMeets.bits7 (fun HT_ HW_ => ?_)
         generalize w27.drew = w35 at BK101 HB hHeld ⊢
         refine pS 0 (some 69) HT_ ?_
         refine pS 1 (some 70) HT_ ?_
         refine pS 2 (some 71) HT_ ?_
         refine pS 3 (some 72) HT_ ?_
         refine pS 4 (some 73) HT_ ?_
         refine pS 5 (some 74) HT_ ?_
         refine pS 6 (some 75) HT_ ?_
         refine pS 7 (some 76) HT_ ?_
         refine pS 8 (some 77) HT_ ?_
         refine pS 9 (some 78) HT_ ?_
         refine pS 10 (some 79) HT_ ?_
         refine pS 11 (some 80) HT_ ?_
         refine pS 12 (some 81) HT_ ?_
         refine pS 13 (some 82) HT_ ?_
         refine pS 14 (some 83) HT_ ?_
         refine pS 15 (some 84) HT_ ?_
         refine pS 16 (some 85) HT_ ?_
         refine pS 17 (some 86) HT_ ?_
         refine pS 18 (some 87) HT_ ?_
         refine pS 19 (some 88) HT_ ?_
         refine pS 20 (some 89) HT_ ?_
         refine pS 23 (some 92) HT_ ?_
         refine pS 24 (some 93) HT_ ?_
         refine tS 21 (some 90) rfl rfl HT_ HW_ hHeld (by rintro w' ⟨s0, s1, s2⟩; go_simp; with_reducible rfl) ?_
         refine tS 25 (some 94) rfl rfl HT_ HW_ hHeld (by rintro w' ⟨s0, s1, s2⟩; go_simp; with_reducible rfl) ?_
         refine one_ (i := 22) (N := some 91) #[true, true, true, true, true, true, true, true, true, true, true, true, true, true, true, true, true, true, true, true, true, true, true, true, true, true, false, false, false] rfl rfl (one_of HT_.out (by kernel_rfl)) (by decide) (fun K hK => ?_)
         refine goes_ Try.func62 (by kernel_rfl) rfl #[.slice A0 l0.length c0, .slice A1 l1.length c1, .agg #[.int .i64 a2_0, .int .i64 a2_1, .int .i64 a2_2]] (by rfl) rfl rfl mB ?_
         with_reducible refine (plane_CheckPart.calls kj3 (fun k_ => k_ < w.heap.size) _ _ l0 (fun k_ => k_ < w.heap.size) _ _ l1 a2_0 a2_1 a2_2 t111 _ ?side1 ?side2 A33.out).mono ?_
         (case side1 => exact Kd.V_mk HC0.out (Kd.F_below (Kd.C_F k23_heap HR0.out) (bB1 HB GE101)))
         (case side2 => exact Kd.V_mk HC1.out (Kd.F_below (Kd.C_F k23_heap HR1.out) (bB1 HB GE101)))
         rintro e w36 ⟨rfl, hb⟩
         refine ⟨_, rfl, ?_⟩
         replace BK101 := Aside0.mk (blk_below (kB BK101) hb)
         replace HB := Aside0.mk (below_step (bB1 HB GE101) hb)
         (try clear hb)
         (try clear hb2)
         (try clear hk)
         (try clear hi)
         refine hK.out _ _ ⟨(blk_cell BK101.out 0).trans rfl, (blk_cell BK101.out 1).trans rfl, (blk_cell BK101.out 2).trans rfl⟩ (fun hHeld => ?_)
         clear hK K
         refine nZ (some 91) ?_
         refine one_ (i := 26) (N := some 95) #[true, true, true, true, true, true, true, true, true, true, true, true, true, true, true, true, true, true, true, true, true, true, true, true, true, true, true, false, false] rfl rfl (one_of HT_.out (by kernel_rfl)) (by decide) (fun K hK => ?_)
         refine goes_ Try.func63 (by kernel_rfl) rfl #[.slice A0 l0.length c0, .slice A1 l1.length c1, .agg #[.int .i64 a2_0, .int .i64 a2_1, .int .i64 a2_2]] (by rfl) rfl rfl mB ?_
         with_reducible refine (gooseneckref01_CheckPart.calls kj3 _ _ l0 _ _ l1 a2_0 a2_1 a2_2 t112 _ ?side1 ?side2 ?side3 ?side4 A34.out).mono ?_
         (case side1 => exact cB HR0 HB)
         (case side2 => exact HC0.out)
         (case side3 => exact cB HR1 HB)
         (case side4 => exact HC1.out)
         rintro e w37 ⟨rfl, hb⟩
         refine ⟨_, rfl, ?_⟩
         replace BK101 := Aside0.mk (blk_below (kB BK101) hb)
         replace HB := Aside0.mk (below_step (bB1 HB GE101) hb)
         (try clear hb)
         (try clear hb2)
         (try clear hk)
         (try clear hi)
         refine hK.out _ _ ⟨(blk_cell BK101.out 0).trans rfl, (blk_cell BK101.out 1).trans rfl, (blk_cell BK101.out 2).trans rfl⟩ (fun hHeld => ?_)
         clear hK K
         refine nZ (some 95) ?_
         refine pS 27 (some 96) HT_ ?_
         refine pS 28 (some 97) HT_ ?_
         refine done_ (done_of HT_.out (by kernel_rfl)) ?_
         try go_wp2
         go_meet
         case rel => exact ⟨_, ((t111 != t112)), sB, H', ⟨by have := HJ3.out; first | omega | exact Nat.le_refl _⟩, ⟨by (with_reducible repeat (first | refine blk_drewN ?_ _ | refine blk_drew ?_ | refine blk_alloc ?_ _)); exact BK101.out⟩, ⟨bB1 HB GE101⟩⟩
        ·rw [if_neg c32] at H
         have c32b0 : (t108 == t110) = false := beq_eq_false_iff_ne.mpr c32
         have c32b1 : (t108 != t110) = true := bne_iff_ne.mpr c32
         have H' := Aside0.mk H
         clear H
         try go_wp2
         replace BK101 := Aside0.mk (blk_drew BK101.out)
         replace HB := Aside0.mk (below_drew1 HB.out)
         refine start_ (n := 29) (S := fun w' => True) (ds := []) #[false, false, false, false, false, false, false, false, false, false, false, false, false, false, false, false, false, false, false, false, false, false, false, false, false, false, false, false, false] (by kernel_rfl) rfl rfl trivial (fun hHeld => ?_); refine with_tabW goosenecklaw01_PlaneMeets.tab7 goosenecklaw01_PlaneMeets.bits7 (fun HT_ HW_ => ?_)
         generalize w27.drew = w38 at BK101 HB hHeld ⊢
         refine pS 0 (some 69) HT_ ?_
         refine pS 1 (some 70) HT_ ?_
         refine pS 2 (some 71) HT_ ?_
         refine pS 3 (some 72) HT_ ?_
         refine pS 4 (some 73) HT_ ?_
         refine pS 5 (some 74) HT_ ?_
         refine pS 6 (some 75) HT_ ?_
         refine pS 7 (some 76) HT_ ?_
         refine pS 8 (some 77) HT_ ?_
         refine pS 9 (some 78) HT_ ?_
         refine pS 10 (some 79) HT_ ?_
         refine pS 11 (some 80) HT_ ?_
         refine pS 12 (some 81) HT_ ?_
         refine pS 13 (some 82) HT_ ?_
         refine pS 14 (some 83) HT_ ?_
         refine pS 15 (some 84) HT_ ?_
         refine pS 16 (some 85) HT_ ?_
         refine pS 17 (some 86) HT_ ?_
         refine pS 18 (some 87) HT_ ?_
         refine nS 19 (some 88) HT_ ?_
         refine nS 20 (some 89) HT_ ?_
         refine nS 21 (some 90) HT_ ?_
         refine nS 22 (some 91) HT_ ?_
         refine nS 23 (some 92) HT_ ?_
         refine nS 24 (some 93) HT_ ?_
         refine nS 25 (some 94) HT_ ?_
         refine nS 26 (some 95) HT_ ?_
         refine nS 27 (some 96) HT_ ?_
         refine pS 28 (some 97) HT_ ?_
         refine done_ (done_of HT_.out (by kernel_rfl)) ?_
         try go_wp2
         go_meet
         case rel => exact ⟨_, (true), sB, H', ⟨by have := HJ3.out; first | omega | exact Nat.le_refl _⟩, ⟨by (with_reducible repeat (first | refine blk_drewN ?_ _ | refine blk_drew ?_ | refine blk_alloc ?_ _)); exact BK101.out⟩, ⟨bB1 HB GE101⟩⟩
       ·rw [if_neg c31] at H
        have c31b0 : (t107 == t109) = false := beq_eq_false_iff_ne.mpr c31
        have c31b1 : (t107 != t109) = true := bne_iff_ne.mpr c31
        have H' := Aside0.mk H
        clear H
        try go_wp2
        replace BK101 := Aside0.mk (blk_drew BK101.out)
        replace HB := Aside0.mk (below_drew1 HB.out)
        refine start_ (n := 29) (S := fun w' => True) (ds := []) #[false, false, false, false, false, false, false, false, false, false, false, false, false, false, false, false, false, false, false, false, false, false, false, false, false, false, false, false, false] (by kernel_rfl) rfl rfl trivial (fun hHeld => ?_); refine with_tabW goosenecklaw01_PlaneMeets.tab7 goosenecklaw01_PlaneMeets.bits7 (fun HT_ HW_ => ?_)
        generalize w27.drew = w39 at BK101 HB hHeld ⊢
        refine pS 0 (some 69) HT_ ?_
        refine pS 1 (some 70) HT_ ?_
        refine pS 2 (some 71) HT_ ?_
        refine pS 3 (some 72) HT_ ?_
        refine pS 4 (some 73) HT_ ?_
        refine pS 5 (some 74) HT_ ?_
        refine pS 6 (some 75) HT_ ?_
        refine pS 7 (some 76) HT_ ?_
        refine pS 8 (some 77) HT_ ?_
        refine pS 9 (some 78) HT_ ?_
        refine pS 10 (some 79) HT_ ?_
        refine pS 11 (some 80) HT_ ?_
        refine pS 12 (some 81) HT_ ?_
        refine pS 13 (some 82) HT_ ?_
        refine nS 14 (some 83) HT_ ?_
        refine nS 15 (some 84) HT_ ?_
        refine nS 16 (some 85) HT_ ?_
        refine pS 17 (some 86) HT_ ?_
        refine pS 18 (some 87) HT_ ?_
        refine nS 19 (some 88) HT_ ?_
        refine nS 20 (some 89) HT_ ?_
        refine nS 21 (some 90) HT_ ?_
        refine nS 22 (some 91) HT_ ?_
        refine nS 23 (some 92) HT_ ?_
        refine nS 24 (some 93) HT_ ?_
        refine nS 25 (some 94) HT_ ?_
        refine nS 26 (some 95) HT_ ?_
        refine nS 27 (some 96) HT_ ?_
        refine pS 28 (some 97) HT_ ?_
        refine done_ (done_of HT_.out (by kernel_rfl)) ?_
        try go_wp2
        go_meet
        case rel => exact ⟨_, (true), sB, H', ⟨by have := HJ3.out; first | omega | exact Nat.le_refl _⟩, ⟨by (with_reducible repeat (first | refine blk_drewN ?_ _ | refine blk_drew ?_ | refine blk_alloc ?_ _)); exact BK101.out⟩, ⟨bB1 HB GE101⟩⟩
      ·rw [if_neg c30] at H
       have c30b0 : (t104 == t106) = false := beq_eq_false_iff_ne.mpr c30
       have c30b1 : (t104 != t106) = true := bne_iff_ne.mpr c30
       have H' := Aside0.mk H
       clear H
       try go_wp2
       replace BK101 := Aside0.mk (blk_drew BK101.out)
       replace HB := Aside0.mk (below_drew1 HB.out)
       refine start_ (n := 29) (S := fun w' => True) (ds := []) #[false, false, false, false, false, false, false, false, false, false, false, false, false, false, false, false, false, false, false, false, false, false, false, false, false, false, false, false, false] (by kernel_rfl) rfl rfl trivial (fun hHeld => ?_); refine with_tabW goosenecklaw01_PlaneMeets.tab7 goosenecklaw01_PlaneMeets.bits7 (fun HT_ HW_ => ?_)
       generalize w27.drew = w40 at BK101 HB hHeld ⊢
       refine pS 0 (some 69) HT_ ?_
       refine pS 1 (some 70) HT_ ?_
       refine pS 2 (some 71) HT_ ?_
       refine pS 3 (some 72) HT_ ?_
       refine pS 4 (some 73) HT_ ?_
       refine pS 5 (some 74) HT_ ?_
       refine pS 6 (some 75) HT_ ?_
       refine pS 7 (some 76) HT_ ?_
       refine pS 8 (some 77) HT_ ?_
       refine nS 9 (some 78) HT_ ?_
       refine nS 10 (some 79) HT_ ?_
       refine nS 11 (some 80) HT_ ?_
       refine pS 12 (some 81) HT_ ?_
       refine pS 13 (some 82) HT_ ?_
       refine nS 14 (some 83) HT_ ?_
       refine nS 15 (some 84) HT_ ?_
       refine nS 16 (some 85) HT_ ?_
       refine pS 17 (some 86) HT_ ?_
       refine pS 18 (some 87) HT_ ?_
       refine nS 19 (some 88) HT_ ?_
       refine nS 20 (some 89) HT_ ?_
       refine nS 21 (some 90) HT_ ?_
       refine nS 22 (some 91) HT_ ?_
       refine nS 23 (some 92) HT_ ?_
       refine nS 24 (some 93) HT_ ?_
       refine nS 25 (some 94) HT_ ?_
       refine nS 26 (some 95) HT_ ?_
       refine nS 27 (some 96) HT_ ?_
       refine pS 28 (some 97) HT_ ?_
       refine done_ (done_of HT_.out (by kernel_rfl)) ?_
       try go_wp2
       go_meet
       case rel => exact ⟨_, (true), sB, H', ⟨by have := HJ3.out; first | omega | exact Nat.le_refl _⟩, ⟨by (with_reducible repeat (first | refine blk_drewN ?_ _ | refine blk_drew ?_ | refine blk_alloc ?_ _)); exact BK101.out⟩, ⟨bB1 HB GE101⟩⟩
    case rest =>
     clear HC23
     try clear p2
     try clear c3
     try clear c30
     try clear c30b0
     try clear c30b1
     try clear c31
     try clear c31b0
     try clear c31b1
     obtain ⟨kq, x97_22, rfl, HA, HJ22, BK101, HB⟩ := hcut
     cases kq with
     | zero => exact absurd HA.out (by simp [goosenecklaw01_PlaneMeets.j1])
     | succ kj22 =>
      have H := HA.out
      clear HA
      simp only [goosenecklaw01_PlaneMeets.j1] at H
      by_cases c41 : x97_22 = true
      ·subst c41
       have H1 : (some false) = some r := by rw [if_pos rfl] at H; exact H
       clear H
       have H := H1
       clear H1
       rw [hr_.out] at H
       exact absurd H (by simp)
      ·replace c41 := Bool.eq_false_iff.mpr c41
       subst c41
       have H1 : ((plane_Part.f l0 l1).bind fun bt113 => ((gooseneckref01_Part.f kj22 l0 l1).bind fun t118 => (if bt113.2.2.2 = t118 then (if bt113.2.2.2 = 0 then ((gooseneckref01_CheckPart.f kj22 l0 l1 bt113.1 bt113.2.1 bt113.2.2.1).bind fun t119 => (if t119 = 0 then ((plane_CheckPart.f kj22 l0 l1 bt113.1 bt113.2.1 bt113.2.2.1).bind fun t120 => (if t120 = 0 then ((goosenecklaw01_works.f kj22).bind fun t121 => (some t121)) else (some false))) else (some false))) else (if (bt113.1 == 0 && (bt113.2.1 == 0 && (bt113.2.2.1 == 0))) = true then ((goosenecklaw01_works.f kj22).bind fun t122 => (some t122)) else (some false))) else (some false)))) = some r := by rw [if_neg (show ¬ (false = true) by decide)] at H; exact H
       clear H
       have H := H1
       clear H1
       replace H := Option.bind_eq_some_iff.mp H
       obtain ⟨⟨t113, t114, t115, t116⟩, A420, H⟩ := H
       replace H : ((gooseneckref01_Part.f kj22 l0 l1).bind fun t118 => (if t116 = t118 then (if t116 = 0 then ((gooseneckref01_CheckPart.f kj22 l0 l1 t113 t114 t115).bind fun t119 => (if t119 = 0 then ((plane_CheckPart.f kj22 l0 l1 t113 t114 t115).bind fun t120 => (if t120 = 0 then ((goosenecklaw01_works.f kj22).bind fun t121 => (some t121)) else (some false))) else (some false))) else (if (t113 == 0 && (t114 == 0 && (t115 == 0))) = true then ((goosenecklaw01_works.f kj22).bind fun t122 => (some t122)) else (some false))) else (some false))) = some r := H
       have A42 := Aside0.mk A420
       clear A420
       replace H := Option.bind_eq_some_iff.mp H
       obtain ⟨t118, A430, H⟩ := H
       replace H : (if t116 = t118 then (if t116 = 0 then ((gooseneckref01_CheckPart.f kj22 l0 l1 t113 t114 t115).bind fun t119 => (if t119 = 0 then ((plane_CheckPart.f kj22 l0 l1 t113 t114 t115).bind fun t120 => (if t120 = 0 then ((goosenecklaw01_works.f kj22).bind fun t121 => (some t121)) else (some false))) else (some false))) else (if (t113 == 0 && (t114 == 0 && (t115 == 0))) = true then ((goosenecklaw01_works.f kj22).bind fun t122 => (some t122)) else (some false))) else (some false)) = some r := H
       have A43 := Aside0.mk A430
       clear A430
       by_cases c44 : t116 = t118
       ·rw [if_pos c44] at H
        have c44b0 : (t116 == t118) = true := beq_iff_eq.mpr c44
        have c44b1 : (t116 != t118) = false := bne_eq_false_iff_eq.mpr c44
        clear c44
        by_cases c45 : t116 = 0
        ·rw [if_pos c45] at H
         have c45b0 : (t116 == 0) = true := beq_iff_eq.mpr c45
         have c45b1 : (t116 != 0) = false := bne_eq_false_iff_eq.mpr c45
         clear c45
         replace H := Option.bind_eq_some_iff.mp H
         obtain ⟨t119, A460, H⟩ := H
         replace H : (if t119 = 0 then ((plane_CheckPart.f kj22 l0 l1 t113 t114 t115).bind fun t120 => (if t120 = 0 then ((goosenecklaw01_works.f kj22).bind fun t121 => (some t121)) else (some false))) else (some false)) = some r := H
         have A46 := Aside0.mk A460
         clear A460
         by_cases c47 : t119 = 0
         ·rw [if_pos c47] at H
          have c47b0 : (t119 == 0) = true := beq_iff_eq.mpr c47
          have c47b1 : (t119 != 0) = false := bne_eq_false_iff_eq.mpr c47
          clear c47
          replace H := Option.bind_eq_some_iff.mp H
          obtain ⟨t120, A480, H⟩ := H
          replace H : (if t120 = 0 then ((goosenecklaw01_works.f kj22).bind fun t121 => (some t121)) else (some false)) = some r := H
          have A48 := Aside0.mk A480
          clear A480
          by_cases c49 : t120 = 0
          ·rw [if_pos c49] at H
           have c49b0 : (t120 == 0) = true := beq_iff_eq.mpr c49
           have c49b1 : (t120 != 0) = false := bne_eq_false_iff_eq.mpr c49
           clear c49
           replace H := Option.bind_eq_some_iff.mp H
           obtain ⟨t121, A500, H⟩ := H
           replace H : (some t121) = some r := H
           have A50 := Aside0.mk A500
           clear A500
           obtain rfl := Option.some.inj H
           go_wp2_with (first | ((with_reducible refine gate_callee (f := 64) rfl ?_); refine goesL_ (some 101) rfl rfl Try.func64 (by kernel_rfl) rfl #[.slice A0 l0.length c0, .slice A1 l1.length c1] rfl mB ?_; (with_reducible refine (plane_Part.calls (fun k_ => k_ < w.heap.size) _ _ l0 (fun k_ => k_ < w.heap.size) _ _ l1 t113 t114 t115 t116 _ ?side1 ?side2 A42.out).mono ?_); (case side1 => exact Kd.V_mk HC0.out (Kd.F_below (Kd.C_F k23_heap HR0.out) (bB1 HB GE101))); (case side2 => exact Kd.V_mk HC1.out (Kd.F_below (Kd.C_F k23_heap HR1.out) (bB1 HB GE101))); rintro e w51 ⟨rfl, hb⟩; refine ⟨_, rfl, ?_⟩; replace BK101 := Aside0.mk (blk_below (kB BK101) hb); replace HB := Aside0.mk (below_step (bB1 HB GE101) hb); (try clear hb); (try clear hb2); (try clear hk); (try clear hi)) | ((with_reducible refine gate_dst (N := 15) rfl ?_); (try (refine gate_guard (by rfl) ?_; dsimp only)); refine boxE (N := 15) (cs := #[.int .i64 0, .int .i64 0, .int .i64 0]) (t := 75) ?_; intro gb117 hg w52 hbox hb; have n0_ := Aside0.mk (blk_below (kB BK101) hb); have n1_ := Aside0.mk (below_step (bB1 HB GE101) hb); have BK117 := Aside0.mk (hbox); have GW117 := Aside0.mk (szB hg (below_size (bB1 HB GE101))); have GE117 := GW117; have NB101_117 := Aside0.mk (neA hg (blk_lt (kB BK101))); have NB117_101 := Aside0.mk (neB hg (blk_lt (kB BK101))); clear BK101; clear HB; have BK101 := n0_; have HB := n1_; clear n0_ n1_; clear hb hbox hg; have hnb53 := NB117_101.out; have hnc53 := NB101_117.out; have hcz54_0 : w52.cell? ⟨gb117, 0, none⟩ = some (.int .i64 0) := (blk_cell BK117.out 0).trans rfl; have hcz54_1 : w52.cell? ⟨gb117, 1, none⟩ = some (.int .i64 0) := (blk_cell BK117.out 1).trans rfl; have hcz54_2 : w52.cell? ⟨gb117, 2, none⟩ = some (.int .i64 0) := (blk_cell BK117.out 2).trans rfl; have hfz54_0 := blk_frozen BK117.out 0; have hfz54_1 := blk_frozen BK117.out 1; have hfz54_2 := blk_frozen BK117.out 2) | ((with_reducible refine gate_callee (f := 65) rfl ?_); refine goesL_ (some 107) rfl rfl Try.func65 (by kernel_rfl) rfl #[.slice A0 l0.length c0, .slice A1 l1.length c1] rfl mB ?_; (with_reducible refine (gooseneckref01_Part.calls kj22 _ _ l0 _ _ l1 t118 _ ?side1 ?side2 ?side3 ?side4 A43.out).mono ?_); (case side1 => exact Kd.C_below HR0.out (bB2 HB GE101 GE117)); (case side2 => exact HC0.out); (case side3 => exact Kd.C_below HR1.out (bB2 HB GE101 GE117)); (case side4 => exact HC1.out); rintro e w55 ⟨rfl, hb⟩; refine ⟨_, rfl, ?_⟩; replace BK101 := Aside0.mk (blk_below (g := gb101) (o := .cells #[.int .i64 a2_0, .int .i64 a2_1, .int .i64 a2_2] 75 (0, 0)) (by (with_reducible repeat (first | refine blk_drewN ?_ _ | refine blk_drew ?_ | refine blk_alloc ?_ _)); refine blk_far ?_ NB101_117.out _; (with_reducible repeat (first | refine blk_drewN ?_ _ | refine blk_drew ?_ | refine blk_alloc ?_ _)); refine blk_far ?_ NB101_117.out _; (with_reducible repeat (first | refine blk_drewN ?_ _ | refine blk_drew ?_ | refine blk_alloc ?_ _)); refine blk_far ?_ NB101_117.out _; (with_reducible repeat (first | refine blk_drewN ?_ _ | refine blk_drew ?_ | refine blk_alloc ?_ _)); exact BK101.out) hb); replace BK117 := Aside0.mk (blk_below (g := gb117) (o := .cells #[.int .i64 t113, .int .i64 t114, .int .i64 t115] 75 (0, 0)) (by (with_reducible repeat (first | refine blk_drewN ?_ _ | refine blk_drew ?_ | refine blk_alloc ?_ _)); refine blk_put (cs := #[.int .i64 t113, .int .i64 t114, .int .i64 0]) ?_ 2 _ rfl; (with_reducible repeat (first | refine blk_drewN ?_ _ | refine blk_drew ?_ | refine blk_alloc ?_ _)); refine blk_put (cs := #[.int .i64 t113, .int .i64 0, .int .i64 0]) ?_ 1 _ rfl; (with_reducible repeat (first | refine blk_drewN ?_ _ | refine blk_drew ?_ | refine blk_alloc ?_ _)); refine blk_put (cs := #[.int .i64 0, .int .i64 0, .int .i64 0]) ?_ 0 _ rfl; (with_reducible repeat (first | refine blk_drewN ?_ _ | refine blk_drew ?_ | refine blk_alloc ?_ _)); exact BK117.out) hb); replace HB := Aside0.mk (below_step (bB2 HB GE101 GE117) hb); (try clear hb); (try clear hb2); (try clear hk); (try clear hi); have hcz56_0 : w55.cell? ⟨gb117, 0, none⟩ = some (.int .i64 t113) := (blk_cell BK117.out 0).trans rfl; have hcz56_1 : w55.cell? ⟨gb117, 1, none⟩ = some (.int .i64 t114) := (blk_cell BK117.out 1).trans rfl; have hcz56_2 : w55.cell? ⟨gb117, 2, none⟩ = some (.int .i64 t115) := (blk_cell BK117.out 2).trans rfl; have hfz56_0 := blk_frozen BK117.out 0; have hfz56_1 := blk_frozen BK117.out 1; have hfz56_2 := blk_frozen BK117.out 2) | ((with_reducible refine gate_callee (f := 63) rfl ?_); refine goesL_ (some 120) rfl rfl Try.func63 (by kernel_rfl) rfl #[.slice A0 l0.length c0, .slice A1 l1.length c1, .agg #[.int .i64 t113, .int .i64 t114, .int .i64 t115]] rfl mB ?_; (with_reducible refine (gooseneckref01_CheckPart.calls kj22 _ _ l0 _ _ l1 t113 t114 t115 t119 _ ?side1 ?side2 ?side3 ?side4 A46.out).mono ?_); (case side1 => exact cB HR0 HB); (case side2 => exact HC0.out); (case side3 => exact cB HR1 HB); (case side4 => exact HC1.out); rintro e w57 ⟨rfl, hb⟩; refine ⟨_, rfl, ?_⟩; replace BK101 := Aside0.mk (blk_below (kB BK101) hb); replace BK117 := Aside0.mk (blk_below (kB BK117) hb); replace HB := Aside0.mk (below_step (bB2 HB GE101 GE117) hb); (try clear hb); (try clear hb2); (try clear hk); (try clear hi); have hcz58_0 : w57.cell? ⟨gb117, 0, none⟩ = some (.int .i64 t113) := (blk_cell BK117.out 0).trans rfl; have hcz58_1 : w57.cell? ⟨gb117, 1, none⟩ = some (.int .i64 t114) := (blk_cell BK117.out 1).trans rfl; have hcz58_2 : w57.cell? ⟨gb117, 2, none⟩ = some (.int .i64 t115) := (blk_cell BK117.out 2).trans rfl; have hfz58_0 := blk_frozen BK117.out 0; have hfz58_1 := blk_frozen BK117.out 1; have hfz58_2 := blk_frozen BK117.out 2) | (go_at_call 62; (with_reducible refine (plane_CheckPart.calls kj22 (fun k_ => k_ < w.heap.size) _ _ l0 (fun k_ => k_ < w.heap.size) _ _ l1 t113 t114 t115 t120 _ ?side1 ?side2 A48.out).mono ?_); (case side1 => exact Kd.V_mk HC0.out (Kd.F_below (Kd.C_F k23_heap HR0.out) (bB2 HB GE101 GE117))); (case side2 => exact Kd.V_mk HC1.out (Kd.F_below (Kd.C_F k23_heap HR1.out) (bB2 HB GE101 GE117))); rintro e w59 ⟨rfl, hb⟩; replace BK101 := Aside0.mk (blk_below (kB BK101) hb); replace BK117 := Aside0.mk (blk_below (kB BK117) hb); replace HB := Aside0.mk (below_step (bB2 HB GE101 GE117) hb); (try clear hb); (try clear hb2); (try clear hk); (try clear hi)) | (go_at_call 19; (with_reducible refine (goosenecklaw01_works.calls kj22  t121 _ A50.out).mono ?_); rintro e w60 ⟨rfl, hb⟩; replace BK101 := Aside0.mk (blk_below (kB BK101) hb); replace BK117 := Aside0.mk (blk_below (kB BK117) hb); replace HB := Aside0.mk (below_step (bB2 HB GE101 GE117) hb); (try clear hb); (try clear hb2); (try clear hk); (try clear hi)))
           go_ret
           exact ⟨eB, bB2 HB GE101 GE117⟩
          ·rw [if_neg c49] at H
           have c49b0 : (t120 == 0) = false := beq_eq_false_iff_ne.mpr c49
           have c49b1 : (t120 != 0) = true := bne_iff_ne.mpr c49
           rw [hr_.out] at H
           exact absurd H (by simp)
         ·rw [if_neg c47] at H
          have c47b0 : (t119 == 0) = false := beq_eq_false_iff_ne.mpr c47
          have c47b1 : (t119 != 0) = true := bne_iff_ne.mpr c47
          rw [hr_.out] at H
          exact absurd H (by simp)
        ·rw [if_neg c45] at H
         have c45b0 : (t116 == 0) = false := beq_eq_false_iff_ne.mpr c45
         have c45b1 : (t116 != 0) = true := bne_iff_ne.mpr c45
         by_cases c61 : (t113 == 0 && (t114 == 0 && (t115 == 0))) = true
         ·rw [if_pos c61] at H
          have c61b0 : (t113 == 0 && (t114 == 0 && (t115 == 0))) = true := c61
          (try (have c61b1 : decide (t113 = 0 && (t114 == 0 && (t115 == 0))) = true := by simpa using c61))
          (try (have c61b2 : (t113 == 0 && (t114 == 0 && (t115 == 0))) = true := by simpa using c61))
          clear c61
          replace H := Option.bind_eq_some_iff.mp H
          obtain ⟨t122, A620, H⟩ := H
          replace H : (some t122) = some r := H
          have A62 := Aside0.mk A620
          clear A620
          obtain rfl := Option.some.inj H
          go_wp2_with (first | ((with_reducible refine gate_callee (f := 64) rfl ?_); refine goesL_ (some 101) rfl rfl Try.func64 (by kernel_rfl) rfl #[.slice A0 l0.length c0, .slice A1 l1.length c1] rfl mB ?_; (with_reducible refine (plane_Part.calls (fun k_ => k_ < w.heap.size) _ _ l0 (fun k_ => k_ < w.heap.size) _ _ l1 t113 t114 t115 t116 _ ?side1 ?side2 A42.out).mono ?_); (case side1 => exact Kd.V_mk HC0.out (Kd.F_below (Kd.C_F k23_heap HR0.out) (bB1 HB GE101))); (case side2 => exact Kd.V_mk HC1.out (Kd.F_below (Kd.C_F k23_heap HR1.out) (bB1 HB GE101))); rintro e w63 ⟨rfl, hb⟩; refine ⟨_, rfl, ?_⟩; replace BK101 := Aside0.mk (blk_below (kB BK101) hb); replace HB := Aside0.mk (below_step (bB1 HB GE101) hb); (try clear hb); (try clear hb2); (try clear hk); (try clear hi)) | ((with_reducible refine gate_dst (N := 15) rfl ?_); (try (refine gate_guard (by rfl) ?_; dsimp only)); refine boxE (N := 15) (cs := #[.int .i64 0, .int .i64 0, .int .i64 0]) (t := 75) ?_; intro gb117 hg w64 hbox hb; have n0_ := Aside0.mk (blk_below (kB BK101) hb); have n1_ := Aside0.mk (below_step (bB1 HB GE101) hb); have BK117 := Aside0.mk (hbox); have GW117 := Aside0.mk (szB hg (below_size (bB1 HB GE101))); have GE117 := GW117; have NB101_117 := Aside0.mk (neA hg (blk_lt (kB BK101))); have NB117_101 := Aside0.mk (neB hg (blk_lt (kB BK101))); clear BK101; clear HB; have BK101 := n0_; have HB := n1_; clear n0_ n1_; clear hb hbox hg; have hnb65 := NB117_101.out; have hnc65 := NB101_117.out; have hcz66_0 : w64.cell? ⟨gb117, 0, none⟩ = some (.int .i64 0) := (blk_cell BK117.out 0).trans rfl; have hcz66_1 : w64.cell? ⟨gb117, 1, none⟩ = some (.int .i64 0) := (blk_cell BK117.out 1).trans rfl; have hcz66_2 : w64.cell? ⟨gb117, 2, none⟩ = some (.int .i64 0) := (blk_cell BK117.out 2).trans rfl; have hfz66_0 := blk_frozen BK117.out 0; have hfz66_1 := blk_frozen BK117.out 1; have hfz66_2 := blk_frozen BK117.out 2) | ((with_reducible refine gate_callee (f := 65) rfl ?_); refine goesL_ (some 107) rfl rfl Try.func65 (by kernel_rfl) rfl #[.slice A0 l0.length c0, .slice A1 l1.length c1] rfl mB ?_; (with_reducible refine (gooseneckref01_Part.calls kj22 _ _ l0 _ _ l1 t118 _ ?side1 ?side2 ?side3 ?side4 A43.out).mono ?_); (case side1 => exact Kd.C_below HR0.out (bB2 HB GE101 GE117)); (case side2 => exact HC0.out); (case side3 => exact Kd.C_below HR1.out (bB2 HB GE101 GE117)); (case side4 => exact HC1.out); rintro e w67 ⟨rfl, hb⟩; refine ⟨_, rfl, ?_⟩; replace BK101 := Aside0.mk (blk_below (g := gb101) (o := .cells #[.int .i64 a2_0, .int .i64 a2_1, .int .i64 a2_2] 75 (0, 0)) (by (with_reducible repeat (first | refine blk_drewN ?_ _ | refine blk_drew ?_ | refine blk_alloc ?_ _)); refine blk_far ?_ NB101_117.out _; (with_reducible repeat (first | refine blk_drewN ?_ _ | refine blk_drew ?_ | refine blk_alloc ?_ _)); refine blk_far ?_ NB101_117.out _; (with_reducible repeat (first | refine blk_drewN ?_ _ | refine blk_drew ?_ | refine blk_alloc ?_ _)); refine blk_far ?_ NB101_117.out _; (with_reducible repeat (first | refine blk_drewN ?_ _ | refine blk_drew ?_ | refine blk_alloc ?_ _)); exact BK101.out) hb); replace BK117 := Aside0.mk (blk_below (g := gb117) (o := .cells #[.int .i64 t113, .int .i64 t114, .int .i64 t115] 75 (0, 0)) (by (with_reducible repeat (first | refine blk_drewN ?_ _ | refine blk_drew ?_ | refine blk_alloc ?_ _)); refine blk_put (cs := #[.int .i64 t113, .int .i64 t114, .int .i64 0]) ?_ 2 _ rfl; (with_reducible repeat (first | refine blk_drewN ?_ _ | refine blk_drew ?_ | refine blk_alloc ?_ _)); refine blk_put (cs := #[.int .i64 t113, .int .i64 0, .int .i64 0]) ?_ 1 _ rfl; (with_reducible repeat (first | refine blk_drewN ?_ _ | refine blk_drew ?_ | refine blk_alloc ?_ _)); refine blk_put (cs := #[.int .i64 0, .int .i64 0, .int .i64 0]) ?_ 0 _ rfl; (with_reducible repeat (first | refine blk_drewN ?_ _ | refine blk_drew ?_ | refine blk_alloc ?_ _)); exact BK117.out) hb); replace HB := Aside0.mk (below_step (bB2 HB GE101 GE117) hb); (try clear hb); (try clear hb2); (try clear hk); (try clear hi); have hcz68_0 : w67.cell? ⟨gb117, 0, none⟩ = some (.int .i64 t113) := (blk_cell BK117.out 0).trans rfl; have hcz68_1 : w67.cell? ⟨gb117, 1, none⟩ = some (.int .i64 t114) := (blk_cell BK117.out 1).trans rfl; have hcz68_2 : w67.cell? ⟨gb117, 2, none⟩ = some (.int .i64 t115) := (blk_cell BK117.out 2).trans rfl; have hfz68_0 := blk_frozen BK117.out 0; have hfz68_1 := blk_frozen BK117.out 1; have hfz68_2 := blk_frozen BK117.out 2) | (go_at_call 19; (with_reducible refine (goosenecklaw01_works.calls kj22  t122 _ A62.out).mono ?_); rintro e w69 ⟨rfl, hb⟩; replace BK101 := Aside0.mk (blk_below (kB BK101) hb); replace BK117 := Aside0.mk (blk_below (kB BK117) hb); replace HB := Aside0.mk (below_step (bB2 HB GE101 GE117) hb); (try clear hb); (try clear hb2); (try clear hk); (try clear hi)))
          go_ret
          exact ⟨eB, bB2 HB GE101 GE117⟩
         ·rw [if_neg c61] at H
          have c61b0 : (t113 == 0 && (t114 == 0 && (t115 == 0))) = false := by simpa using c61
          (try (have c61b1 : decide (t113 = 0 && (t114 == 0 && (t115 == 0))) = false := by simpa using c61))
          (try (have c61b2 : (t113 == 0 && (t114 == 0 && (t115 == 0))) = false := by simpa using c61))
          (try (have c61b3 : ¬ (t113 = 0 && (t114 == 0 && (t115 == 0))) := by simpa using c61))
          clear c61
          rw [hr_.out] at H
          exact absurd H (by simp)
       ·rw [if_neg c44] at H
        have c44b0 : (t116 == t118) = false := beq_eq_false_iff_ne.mpr c44
        have c44b1 : (t116 != t118) = true := bne_iff_ne.mpr c44
        rw [hr_.out] at H
        exact absurd H (by simp)
end Go.Proofs.Ytegdcnjjelgpjaa.P
namespace Go.Proofs.Ytegdcnjjelgpjaa.P
open Go.RowKit Go.Deep Go.ChangeShapes Go.WideShapes Go.Proofs.YtegdcnjjelgpjaaW.PrintWords Go.Proofs.YtegdcnjjelgpjaaW.PrintLast Go.Proofs.YtegdcnjjelgpjaaW.PrintMore
def Opens {α : Type} (P : Program) (t : TypeId) (d : Kd α) (wf : α → Prop) : Prop :=
 ∀ (H : Type) (enc : TypeId × Value → H) (w : World) (base : Nat) (spare : Nat → Bool) (held : Bool) (fuel : Nat) (cs : List Value) (x : DataW H × List MemPlace), DataW.trod enc P w base spare held fuel t cs = some x → ∃ a : α, d.K w a cs ∧ wf a
def FieldsOpen {α : Type} (P : Program) (fs : List Field) (off : Nat) (d : Kd α) (wf : α → Prop) : Prop :=
 ∀ (H : Type) (enc : TypeId × Value → H) (w : World) (base : Nat) (spare : Nat → Bool) (held : Bool) (cs : List Value), (∀ f ∈ fs, ∃ n y, DataW.trod enc P w base spare held n f.type ((cs.drop f.offset).take (P.cellsOf f.type)) = some y) → cs.length = off + d.sz → ∃ a : α, d.K w a (cs.drop off) ∧ wf a
theorem Opens.int {P : Program} {t : TypeId} {k : IntKind} (hu : P.underlying t = some (.int k)) : Opens P t (Kd.int k) (fun n => (Lit.int k n).wf = true) := by
 intro H enc w base spare held fuel cs x h
 obtain ⟨n, rfl, _, hw⟩ := DataW.trod_int hu h
 exact ⟨n, rfl, hw⟩
theorem Opens.bool {P : Program} {t : TypeId} (hu : P.underlying t = some .bool) : Opens P t Kd.bool (fun _ => True) := by
 intro H enc w base spare held fuel cs x h
 obtain ⟨n, rfl, _⟩ := DataW.trod_bool hu h
 exact ⟨n, rfl, trivial⟩
theorem FieldsOpen.one {α : Type} {P : Program} {f : Field} {off : Nat} {d : Kd α} {wf : α → Prop} (ho : f.offset = off) (hs : P.cellsOf f.type = d.sz) (h : Opens P f.type d wf) : FieldsOpen P [f] off d wf := by
 intro H enc w base spare held cs hf hl
 obtain ⟨n, y, hy⟩ := hf f (List.mem_singleton.2 rfl)
 rw [ho, hs, List.take_of_length_le (by rw [List.length_drop]; omega)] at hy
 exact h H enc w base spare held n _ y hy
theorem FieldsOpen.cons {α β : Type} {P : Program} {f : Field} {fs : List Field} {off : Nat} {d : Kd α} {d' : Kd β} {wf : α → Prop} {wf' : β → Prop} (ho : f.offset = off) (hs : P.cellsOf f.type = d.sz) (h : Opens P f.type d wf) (h' : FieldsOpen P fs (off + d.sz) d' wf') :
  FieldsOpen P (f :: fs) off (Kd.pair d d') (fun x => wf x.1 ∧ wf' x.2) := by
 intro H enc w base spare held cs hf hl
 have hl' : cs.length = off + (d.sz + d'.sz) := hl
 obtain ⟨n, y, hy⟩ := hf f (List.mem_cons_self ..)
 rw [ho, hs] at hy
 obtain ⟨a, ha, wa⟩ := h H enc w base spare held n _ y hy
 obtain ⟨b, hb, wb⟩ := h' H enc w base spare held cs (fun g hg => hf g (List.mem_cons_of_mem _ hg)) (by omega)
 refine ⟨(a, b), ⟨_, _, ?_, ha, hb⟩, wa, wb⟩
 rw [← List.drop_drop, List.take_append_drop]
theorem Opens.struct {α : Type} {P : Program} {t : TypeId} {fs : Array Field} {d : Kd α} {wf : α → Prop} (hu : P.underlying t = some (.struct fs)) (hs : P.cellsOf t = d.sz) (h : FieldsOpen P fs.toList 0 d wf) : Opens P t d wf := by
 intro H enc w base spare held fuel cs x hx
 obtain ⟨xs, n, _, _, hl, hlen, hf⟩ := DataW.trod_struct hu hx
 have hk := h H enc w base spare held cs (fun f hf' => by
  obtain ⟨i, hi⟩ := List.getElem?_of_mem hf'
  have h1 := hf i f (by simpa using hi)
  have hlt : i < xs.length := by
   have := (List.getElem?_eq_some_iff.1 hi).1
   rw [hlen]; simpa using this
  rw [List.getElem?_eq_getElem hlt] at h1
  exact ⟨n, _, h1⟩) (by rw [hl, hs]; omega)
 simpa using hk
theorem Opens.iso {α β : Type} {P : Program} {t : TypeId} {d : Kd α} {f : β → α} {wf : α → Prop} (g : α → β) (hg : ∀ a, f (g a) = a) (h : Opens P t d wf) : Opens P t (Kd.iso d f) (fun b => wf (f b)) := by
 intro H enc w base spare held fuel cs x hx
 obtain ⟨a, ha, wa⟩ := h H enc w base spare held fuel cs x hx
 exact ⟨g a, by show d.K w (f (g a)) cs; rw [hg]; exact ha, by show wf (f (g a)); rw [hg]; exact wa⟩
theorem Opens.slice {α : Type} {P : Program} {t e : TypeId} {d : Kd α} {wf : α → Prop} (hu : P.underlying t = some (.slice e)) (hs : P.cellsOf e = d.sz) (h : Opens P e d wf) : Opens P t (Kd.slice e d) (fun l => l.length ≤ 9223372036854775807 ∧ ∀ x ∈ l, wf x) := by
 intro H enc w base spare held fuel cs x hx
 rcases open_slice hu hx with ⟨rfl, _⟩ | ⟨a, len, cap, m, n, D, Pl, rfl, hb, hl, hm, hmm, _, hel⟩
 ·exact ⟨[], ⟨none, 0, rfl, Nat.le_refl _, rfl, by simp, fun h => absurd h (Nat.lt_irrefl 0)⟩, by simp, fun x hx => by cases hx⟩
 ·have hlm : len ≤ m := by rw [hmm]; split <;> omega
  have hmx : cap ≤ 9223372036854775807 := by simpa [maxLen] using hm
  have key : ∀ k, k ≤ len → ∃ xs : List α, xs.length = k ∧ (∀ x ∈ xs, wf x) ∧ ∀ j p, xs[j]? = some p → ∃ c, c.length = d.sz ∧ d.K w p c ∧ ∀ i u, c[i]? = some u → w.cell? (a.add (j * d.sz + i)) = some u := by
   intro k
   induction k with
   | zero => intro _; exact ⟨[], rfl, (fun x hx => by cases hx), fun j p hj => by simp at hj⟩
   | succ k ih =>
    intro hk
    obtain ⟨xs, hxl, hxw, hxs⟩ := ih (by omega)
    obtain ⟨cs', hcs, htr⟩ := hel k (by omega)
    obtain ⟨_, hcl, hcell⟩ := World.cells?_some hcs
    obtain ⟨p, hp, wp⟩ := h H enc w base spare held n cs' _ htr
    refine ⟨xs ++ [p], by simp [hxl], ?_, ?_⟩
    ·intro x hx
     rcases List.mem_append.1 hx with hx | hx
     ·exact hxw x hx
     ·rw [List.mem_singleton.1 hx]; exact wp
    ·intro j q hj
     rcases Nat.lt_or_ge j xs.length with hj' | hj'
     ·rw [List.getElem?_append_left hj'] at hj
      exact hxs j q hj
     ·have hjk : j = k := by
       have := (List.getElem?_eq_some_iff.1 hj).1
       rw [List.length_append, List.length_singleton] at this
       omega
      subst hjk
      rw [List.getElem?_append_right (by omega)] at hj
      have hq : p = q := by simpa [hxl] using hj
      subst hq
      refine ⟨cs', by rw [hcl, hs], hp, fun i u hi => ?_⟩
      have hi' : i < cs'.length := (List.getElem?_eq_some_iff.1 hi).1
      have := hcell i (by omega)
      rw [Deep.add_add, hs] at this
      rw [this, hi]
  obtain ⟨xs, hxl, hxw, hxs⟩ := key len (Nat.le_refl _)
  subst hxl
  exact ⟨xs, ⟨some a, cap, rfl, hl, rfl, by omega, fun _ => ⟨a, rfl, hxs⟩⟩, by omega, hxw⟩
end Go.Proofs.Ytegdcnjjelgpjaa.P
namespace Go.Proofs.Ytegdcnjjelgpjaa.P
open Go.RowKit Go.Proofs.YtegdcnjjelgpjaaW.PrintWords Go.Proofs.YtegdcnjjelgpjaaW.PrintLast Go.Proofs.YtegdcnjjelgpjaaW.PrintMore
open Go.Deep Go.ChangeShapes Go.WideShapes
def wfS23 (x : S23) : Prop := (Lit.int .i64 x.f0).wf = true ∧ (Lit.int .i64 x.f1).wf = true
theorem opens23 : Opens Try.prog 23 k23 wfS23 := Opens.iso (fun a => ⟨a.1, a.2⟩) (fun a => rfl) (Opens.struct Try.underlying23 (by kernel_rfl) (FieldsOpen.cons rfl (by kernel_rfl) (Opens.int Try.underlying2) (FieldsOpen.one rfl (by kernel_rfl) (Opens.int Try.underlying2))))
def wfS75 (x : S75) : Prop := (Lit.int .i64 x.f0).wf = true ∧ (Lit.int .i64 x.f1).wf = true ∧ (Lit.int .i64 x.f2).wf = true
theorem opens75 : Opens Try.prog 75 k75 wfS75 := Opens.iso (fun a => ⟨a.1, a.2.1, a.2.2⟩) (fun a => rfl) (Opens.struct Try.underlying75 (by kernel_rfl) (FieldsOpen.cons rfl (by kernel_rfl) (Opens.int Try.underlying2) (FieldsOpen.cons rfl (by kernel_rfl) (Opens.int Try.underlying2) (FieldsOpen.one rfl (by kernel_rfl) (Opens.int Try.underlying2)))))
end Go.Proofs.Ytegdcnjjelgpjaa.P
namespace Go.Proofs.Ytegdcnjjelgpjaa.P
open Go.RowKit Go.Proofs.YtegdcnjjelgpjaaW.PrintWords Go.Proofs.YtegdcnjjelgpjaaW.PrintLast Go.Proofs.YtegdcnjjelgpjaaW.PrintMore
def PlaneMeets_Pure : Prop := ∀ (l0 : List (S23)) (l1 : List (S23)) (x2 : S75), (l0.length ≤ 9223372036854775807 ∧ ∀ x_ ∈ l0, wfS23 x_) → (l1.length ≤ 9223372036854775807 ∧ ∀ x_ ∈ l1, wfS23 x_) → (wfS75 x2) → ∃ k, goosenecklaw01_PlaneMeets.f k l0 l1 x2.f0 x2.f1 x2.f2 = some true
end Go.Proofs.Ytegdcnjjelgpjaa.P
namespace Go.Proofs.Ytegdcnjjelgpjaa.P
open Go.RowKit Go.Proofs.YtegdcnjjelgpjaaW.PrintWords Go.Proofs.YtegdcnjjelgpjaaW.PrintLast Go.Proofs.YtegdcnjjelgpjaaW.PrintMore
set_option linter.unusedVariables false
set_option linter.unusedSimpArgs false
def dP (x y : Int) (p : S23) : Int := x * p.f0 + y * p.f1
theorem dP_dt (x y : Int) (p : S23) : Geo.dt S23.f0 S23.f1 x y p = dP x y p := rfl
def Dir (x y : Int) : Prop := (-134217728 ≤ x ∧ x ≤ 134217728) ∧ (-134217728 ≤ y ∧ y ≤ 134217728)
theorem dotW_eq {x y : Int} {p : S23} (hd : Dir x y) (hp : Bd p) : dotW x y p = dP x y p := by
 unfold Dir at hd; unfold Bd at hp
 have h1 := mulA_bd (a := x) (b := p.f0) (A := 134217728) hd.1 ⟨by omega, by omega⟩
 have h2 := mulA_bd (a := y) (b := p.f1) (A := 134217728) hd.2 ⟨by omega, by omega⟩
 unfold dotW dP
 rw [ww (x := x * p.f0) (by omega) (by omega), ww (x := y * p.f1) (by omega) (by omega), ww (by omega) (by omega)]
theorem foldl_mx {α : Type} (f : α → Int) : ∀ (l : List α) (z : Int), (∀ p ∈ l, f p ≤ l.foldl (fun m p => mx m (f p)) z) ∧ z ≤ l.foldl (fun m p => mx m (f p)) z ∧ (l.foldl (fun m p => mx m (f p)) z = z ∨ ∃ p ∈ l, l.foldl (fun m p => mx m (f p)) z = f p)
 | [], z => ⟨by simp, Int.le_refl _, .inl rfl⟩
 | a :: l, z => by
  obtain ⟨h1, h2, h3⟩ := foldl_mx f l (mx z (f a))
  simp only [List.foldl_cons]
  have e1 : z ≤ mx z (f a) := by unfold mx; split <;> omega
  have e2 : f a ≤ mx z (f a) := by unfold mx; split <;> omega
  refine ⟨fun p hp => ?_, by omega, ?_⟩
  ·rcases List.mem_cons.1 hp with rfl | hp
   ·omega
   ·exact h1 p hp
  ·rcases h3 with h3 | ⟨p, hp, h3⟩
   ·unfold mx at h3 ⊢
    split at h3
    ·rename_i c; rw [if_pos c]; exact .inr ⟨a, by simp, h3⟩
    ·rename_i c; rw [if_neg c]; exact .inl h3
   ·exact .inr ⟨p, by simp [hp], h3⟩
theorem foldl_mn {α : Type} (f : α → Int) : ∀ (l : List α) (z : Int), (∀ p ∈ l, l.foldl (fun m p => mn m (f p)) z ≤ f p) ∧ l.foldl (fun m p => mn m (f p)) z ≤ z ∧ (l.foldl (fun m p => mn m (f p)) z = z ∨ ∃ p ∈ l, l.foldl (fun m p => mn m (f p)) z = f p)
 | [], z => ⟨by simp, Int.le_refl _, .inl rfl⟩
 | a :: l, z => by
  obtain ⟨h1, h2, h3⟩ := foldl_mn f l (mn z (f a))
  simp only [List.foldl_cons]
  have e1 : mn z (f a) ≤ z := by unfold mn; split <;> omega
  have e2 : mn z (f a) ≤ f a := by unfold mn; split <;> omega
  refine ⟨fun p hp => ?_, by omega, ?_⟩
  ·rcases List.mem_cons.1 hp with rfl | hp
   ·omega
   ·exact h1 p hp
  ·rcases h3 with h3 | ⟨p, hp, h3⟩
   ·unfold mn at h3 ⊢
    split at h3
    ·rename_i c; rw [if_pos c]; exact .inr ⟨a, by simp, h3⟩
    ·rename_i c; rw [if_neg c]; exact .inl h3
   ·exact .inr ⟨p, by simp [hp], h3⟩
theorem cons_drop {l : List S23} (h : 0 < l.length) : l = rd_T23 l 0 :: l.drop 1 := by
 cases l with
 | nil => simp at h
 | cons a r => rfl
theorem hiW_max {x y : Int} {l : List S23} (h : 0 < l.length) : (∀ p ∈ l, dotW x y p ≤ hiW x y l) ∧ ∃ p ∈ l, hiW x y l = dotW x y p := by
 obtain ⟨h1, h2, h3⟩ := foldl_mx (dotW x y) (l.drop 1) (dotW x y (rd_T23 l 0))
 have hc := cons_drop h
 unfold hiW
 refine ⟨fun p hp => ?_, ?_⟩
 ·rw [hc] at hp
  rcases List.mem_cons.1 hp with rfl | hp
  ·exact h2
  ·exact h1 p hp
 ·rcases h3 with h3 | ⟨p, hp, h3⟩
  ·exact ⟨_, by rw [hc]; simp [rd_T23], h3⟩
  ·exact ⟨p, List.mem_of_mem_drop hp, h3⟩
theorem loW_min {x y : Int} {l : List S23} (h : 0 < l.length) : (∀ p ∈ l, loW x y l ≤ dotW x y p) ∧ ∃ p ∈ l, loW x y l = dotW x y p := by
 obtain ⟨h1, h2, h3⟩ := foldl_mn (dotW x y) (l.drop 1) (dotW x y (rd_T23 l 0))
 have hc := cons_drop h
 unfold loW
 refine ⟨fun p hp => ?_, ?_⟩
 ·rw [hc] at hp
  rcases List.mem_cons.1 hp with rfl | hp
  ·exact h2
  ·exact h1 p hp
 ·rcases h3 with h3 | ⟨p, hp, h3⟩
  ·exact ⟨_, by rw [hc]; simp [rd_T23], h3⟩
  ·exact ⟨p, List.mem_of_mem_drop hp, h3⟩
def BdL (l : List S23) : Prop := ∀ p ∈ l, Bd p
abbrev SepD (u v : Int) (a b : List S23) : Prop := Geo.Sep S23.f0 S23.f1 u v a b
def SepE (a b : List S23) : Prop := ∃ u v, SepD u v a b
theorem span_sep {x y : Int} {a b : List S23} (hd : Dir x y) (ha : BdL a) (hb : BdL b) (na : 0 < a.length) (nb : 0 < b.length) : hiW x y a < loW x y b ↔ SepD x y a b := by
 obtain ⟨h1, p, hp, h2⟩ := hiW_max (x := x) (y := y) na
 obtain ⟨g1, q, hq, g2⟩ := loW_min (x := x) (y := y) nb
 constructor
 ·intro h s hs t ht
  have k1 := h1 s hs
  have k2 := g1 t ht
  rw [dotW_eq hd (ha s hs)] at k1
  rw [dotW_eq hd (hb t ht)] at k2
  rw [dP_dt, dP_dt]; omega
 ·intro h
  have := h p hp q hq
  rw [dP_dt, dP_dt, ← dotW_eq hd (ha p hp), ← dotW_eq hd (hb q hq)] at this
  omega
theorem bd_sub {p q : S23} (hp : Bd p) (hq : Bd q) : (wrap64 (q.f0 - p.f0) = q.f0 - p.f0 ∧ wrap64 (q.f1 - p.f1) = q.f1 - p.f1) ∧ (wrap64 (-(q.f0 - p.f0)) = -(q.f0 - p.f0) ∧ wrap64 (-(q.f1 - p.f1)) = -(q.f1 - p.f1)) ∧ (-134217728 ≤ q.f0 - p.f0 ∧ q.f0 - p.f0 ≤ 134217728) ∧ (-134217728 ≤ q.f1 - p.f1 ∧ q.f1 - p.f1 ≤ 134217728) := by
 unfold Bd at hp hq
 refine ⟨⟨ww (by omega) (by omega), ww (by omega) (by omega)⟩, ⟨ww (by omega) (by omega), ww (by omega) (by omega)⟩, ⟨by omega, by omega⟩, by omega, by omega⟩
theorem next_mod {n i : Nat} (hi : i < n) : Geo.Next n i ((i + 1) % n) := by
 by_cases g : i + 1 < n
 ·rw [Nat.mod_eq_of_lt g]; exact .inl rfl
 ·have : i + 1 = n := by omega
  rw [this, Nat.mod_self]; exact .inr ⟨this, rfl⟩
theorem mod_next {n i j : Nat} (hj : j < n) (h : Geo.Next n i j) : j = (i + 1) % n := by
 rcases h with h | ⟨h, rfl⟩
 ·rw [Nat.mod_eq_of_lt (by omega)]; exact h
 ·rw [h, Nat.mod_self]
theorem side_mem {h : List S23} {s : S23 × S23} (hs : s ∈ sideL h) : ∃ (i j : Nat) (hi : i < h.length) (hj : j < h.length), Geo.Next h.length i j ∧ s = (h[i], h[j]) := by
 obtain ⟨i, hi, rfl⟩ := List.mem_map.1 hs
 have hi' : i < h.length := by simpa using hi
 have hj : (i + 1) % h.length < h.length := Nat.mod_lt _ (by omega)
 refine ⟨i, (i + 1) % h.length, hi', hj, next_mod hi', ?_⟩
 simp [sideAt, List.getD_eq_getElem?_getD, hi', hj]
theorem mem_side {h : List S23} {i j : Nat} (hi : i < h.length) (hj : j < h.length) (hn : Geo.Next h.length i j) : (h[i], h[j]) ∈ sideL h := by
 refine List.mem_map.2 ⟨i, by simpa using hi, ?_⟩
 have := mod_next hj hn
 subst this
 simp [sideAt, List.getD_eq_getElem?_getD, hi, hj]
theorem dirs_dir {h : List S23} (hb : BdL h) {d : S75} (hd : d ∈ dirs h) : Dir d.f0 d.f1 := by
 obtain ⟨s, hs, hd⟩ := List.mem_flatMap.1 hd
 obtain ⟨i, j, hi, hj, _, rfl⟩ := side_mem hs
 obtain ⟨⟨e0, e1⟩, ⟨e2, e3⟩, h0, h1⟩ := bd_sub (hb _ (List.getElem_mem hi)) (hb _ (List.getElem_mem hj))
 simp only [dir4, e0, e1, e2, e3, List.mem_cons, List.not_mem_nil, or_false] at hd
 unfold Dir
 rcases hd with rfl | rfl | rfl | rfl <;> refine ⟨⟨?_, ?_⟩, ?_, ?_⟩ <;> dsimp only <;> omega
theorem dir_mem {h : List S23} (hb : BdL h) {u v : Int} (hd : Geo.DirOf S23.f0 S23.f1 h u v) : (⟨u, v, 0⟩ : S75) ∈ dirs h := by
 obtain ⟨i, j, hi, hj, hn, hd⟩ := hd
 obtain ⟨⟨e0, e1⟩, ⟨e2, e3⟩, h0, h1⟩ := bd_sub (hb _ (List.getElem_mem hi)) (hb _ (List.getElem_mem hj))
 refine List.mem_flatMap.2 ⟨_, mem_side hi hj hn, ?_⟩
 simp only [dir4, e0, e1, e2, e3, List.mem_cons, List.not_mem_nil, or_false]
 rcases hd with ⟨rfl, rfl⟩ | ⟨rfl, rfl⟩ | ⟨rfl, rfl⟩ | ⟨rfl, rfl⟩ <;> simp
theorem rd0_mem {l : List S23} (h : 0 < l.length) : rd_T23 l 0 = l[0] := by
 cases l with
 | nil => simp at h
 | cons a r => rfl
theorem partL_dir {a b : List S23} (na : 0 < a.length) (nb : 0 < b.length) (ha : BdL a) (hb : BdL b) {d : S75} (hd : d ∈ partL a b) : Dir d.f0 d.f1 := by
 unfold partL at hd
 rcases List.mem_cons.1 hd with rfl | hd
 ·obtain ⟨⟨e0, e1⟩, ⟨e2, e3⟩, h0, h1⟩ := bd_sub (ha _ (List.getElem_mem na)) (hb _ (List.getElem_mem nb))
  unfold dir0 Dir
  rw [rd0_mem na, rd0_mem nb, e0, e1]
  exact ⟨h0, h1⟩
 ·rcases List.mem_append.1 hd with hd | hd
  ·exact dirs_dir ha hd
  ·exact dirs_dir hb hd
abbrev IsHu (s h : List S23) : Prop := Geo.IsH S23.f0 S23.f1 s h
theorem tryA_some {a b : List S23} {d x : S75} : tryA a b d = some x ↔ hiW d.f0 d.f1 a < loW d.f0 d.f1 b ∧ x = ⟨d.f0, d.f1, hiW d.f0 d.f1 a⟩ := by
 unfold tryA
 split
 ·rename_i c; simp [c, eq_comm]
 ·rename_i c; simp [c]
theorem part_some {a b : List S23} (HA : IsHu a a) (HB : IsHu b b) (ha : BdL a) (hb : BdL b) (h : SepE a b) : ∃ x, tryO a b (partL a b) = some x := by
 obtain ⟨u, v, h⟩ := h
 obtain ⟨u, v, h, hd⟩ := Geo.sat inj23 HA HB h
 have hm : (⟨u, v, 0⟩ : S75) ∈ partL a b := by
  unfold partL
  rcases hd with hd | hd | ⟨rfl, rfl⟩
  ·exact List.mem_cons_of_mem _ (List.mem_append_left _ (dir_mem ha hd))
  ·exact List.mem_cons_of_mem _ (List.mem_append_right _ (dir_mem hb hd))
  ·obtain ⟨⟨e0, e1⟩, _⟩ := bd_sub (ha _ (List.getElem_mem HA.ne)) (hb _ (List.getElem_mem HB.ne))
   have : dir0 a b = ⟨S23.f0 (b[0]'HB.ne) - S23.f0 (a[0]'HA.ne), S23.f1 (b[0]'HB.ne) - S23.f1 (a[0]'HA.ne), 0⟩ := by
    unfold dir0
    rw [rd0_mem HA.ne, rd0_mem HB.ne, e0, e1]
   rw [this]; exact List.mem_cons_self ..
 have hk := (span_sep (partL_dir HA.ne HB.ne ha hb hm) ha hb HA.ne HB.ne).2 h
 cases e : tryO a b (partL a b) with
 | some x => exact ⟨x, rfl⟩
 | none =>
  have := List.findSome?_eq_none_iff.1 e _ hm
  unfold tryA at this
  rw [if_pos hk] at this
  simp at this
theorem part_sound {a b : List S23} (na : 0 < a.length) (nb : 0 < b.length) (ha : BdL a) (hb : BdL b) {x : S75} (h : tryO a b (partL a b) = some x) : Dir x.f0 x.f1 ∧ hiW x.f0 x.f1 a = x.f2 ∧ x.f2 < loW x.f0 x.f1 b ∧ SepD x.f0 x.f1 a b := by
 obtain ⟨d, hd, hx⟩ := List.exists_of_findSome?_eq_some h
 obtain ⟨h1, rfl⟩ := tryA_some.1 hx
 have hdir := partL_dir na nb ha hb hd
 exact ⟨hdir, rfl, h1, (span_sep hdir ha hb na nb).1 h1⟩
def apartV (a b : List S23) : Bool := (tryO a b (partL a b)).isSome
theorem apartV_iff {a b : List S23} (HA : IsHu a a) (HB : IsHu b b) (ha : BdL a) (hb : BdL b) : apartV a b = true ↔ SepE a b := by
 unfold apartV
 constructor
 ·intro h
  obtain ⟨x, hx⟩ := Option.isSome_iff_exists.1 h
  exact ⟨_, _, (part_sound HA.ne HB.ne ha hb hx).2.2.2⟩
 ·intro h
  obtain ⟨x, hx⟩ := part_some HA HB ha hb h
  rw [hx]; rfl
theorem lineR_ok (o : Option S75) : (lineR o).2.2.2 = o.isSome := by cases o <;> rfl
theorem apart_eq {a b : List S23} (na : 0 < a.length) (nb : 0 < b.length) : plane_apart.f a b = some (apartV a b) := by
 unfold plane_apart.f plane_part.f
 rw [if_pos ⟨na, nb⟩, Option.bind_some, lineR_ok]; rfl
theorem SepE.symm {a b : List S23} (h : SepE a b) : SepE b a := by
 obtain ⟨u, v, h⟩ := h
 refine ⟨-u, -v, fun q hq p hp => ?_⟩
 have := h p hp q hq
 simp only [dP_dt, dP] at *
 rw [Int.neg_mul, Int.neg_mul, Int.neg_mul, Int.neg_mul]; omega
theorem isHu_self {s h : List S23} (H : IsHu s h) : IsHu h h :=
 ⟨H.ne, fun _ hx => hx, fun u v w hw => ⟨w, hw, Int.le_refl _⟩, fun i j hi hj hn w hw => H.left i j hi hj hn w (H.sub w hw), H.turn, H.nodup, fun w hw => H.first w (H.sub w hw)⟩
theorem hull_isH {l : List S23} (h : l ≠ []) : IsHu l (hull l) := by
 have H := Geo.hullOf_ok (X := S23.f0) (Y := S23.f1) (Geo.sd_ne (X := S23.f0) (Y := S23.f1) h) (Geo.sd_sorted inj23 l)
 have e : ∀ z, z ∈ Geo.sd S23.f0 S23.f1 l ↔ z ∈ l := fun z => Geo.sd_mem
 exact ⟨H.ne, fun x hx => (e x).1 (H.sub x hx), fun u v w hw => H.sup u v w ((e w).2 hw), fun i j hi hj hn w hw => H.left i j hi hj hn w ((e w).2 hw), H.turn, H.nodup, fun w hw => H.first w ((e w).2 hw)⟩
theorem sep_hull {s h b : List S23} (H : IsHu s h) {u v : Int} : SepD u v h b ↔ SepD u v s b := by
 constructor
 ·intro k w hw q hq
  obtain ⟨x, hx, hle⟩ := H.sup u v w hw
  exact Int.lt_of_le_of_lt hle (k x hx q hq)
 ·intro k w hw q hq
  exact k w (H.sub w hw) q hq
theorem sepE_hull {s h b : List S23} (H : IsHu s h) : SepE h b ↔ SepE s b :=
 ⟨fun ⟨u, v, k⟩ => ⟨u, v, (sep_hull H).1 k⟩, fun ⟨u, v, k⟩ => ⟨u, v, (sep_hull H).2 k⟩⟩
theorem isHullV_isH {l : List S23} (h : isHullV l = true) : IsHu l l := by
 obtain ⟨⟨h0, _, _⟩, e⟩ := isHullV_iff.1 h
 have := hull_isH (l := l) (by intro e'; simp [e'] at h0)
 rwa [e] at this
theorem isHullV_ok {l : List S23} (h : isHullV l = true) : okP l = true := (isHullV_iff.1 h).1.2.2
theorem isHullV_bd {l : List S23} (h : isHullV l = true) : BdL l := bnd_iff.1 (bnd_ok (isHullV_ok h))
theorem errHs_two {l m : List S23} (h : isHullV l = true) (k : isHullV m = true) : errHs [l, m] = 0 := by
 unfold errHs
 have h1 := (isHullV_iff.1 h).1
 have k1 := (isHullV_iff.1 k).1
 have e : errLs [l, m] = 0 := by
  unfold errLs
  rw [if_neg (by simp; omega), if_pos (by simp [h1.2.2, k1.2.2])]
 rw [if_neg (by rw [e]; simp)]
 simp [h, k]
theorem checkHs_two {l m : List S23} (h : isHullV l = true) (k : isHullV m = true) : plane_checkHulls.f [l, m] = some 0 := by
 unfold plane_checkHulls.f; rw [if_pos (by simp), errHs_two h k]
def reach (u v : Int) : Int := (u.natAbs : Int) + (v.natAbs : Int)
theorem abs_mul_le {u t x : Int} (h0 : 0 ≤ t) (h : -t ≤ x ∧ x ≤ t) : -(t * (u.natAbs : Int)) ≤ u * x ∧ u * x ≤ t * (u.natAbs : Int) := by
 rcases Int.le_total 0 u with g | g
 ·have e : (u.natAbs : Int) = u := by omega
  rw [e]
  have h1 : 0 ≤ u * (t - x) := Int.mul_nonneg g (by omega)
  have h2 : 0 ≤ u * (t + x) := Int.mul_nonneg g (by omega)
  rw [Int.mul_sub] at h1; rw [Int.mul_add] at h2
  rw [Int.mul_comm t u]; omega
 ·have e : (u.natAbs : Int) = -u := by omega
  rw [e]
  have h1 : 0 ≤ (-u) * (t - x) := Int.mul_nonneg (by omega) (by omega)
  have h2 : 0 ≤ (-u) * (t + x) := Int.mul_nonneg (by omega) (by omega)
  rw [Int.mul_sub, Int.neg_mul, Int.neg_mul] at h1; rw [Int.mul_add, Int.neg_mul, Int.neg_mul] at h2
  rw [Int.mul_neg, Int.mul_comm t u]; omega
def Within (B : Int) (l : List S23) : Prop := ∀ p ∈ l, (-B ≤ p.f0 ∧ p.f0 ≤ B) ∧ (-B ≤ p.f1 ∧ p.f1 ≤ B)
theorem grow_mem {l : List S23} {t : Int} (hl : Within 16777216 l) (h0 : 0 ≤ t) (h1 : t ≤ 33554432) {q : S23} :
  q ∈ growL l t ↔ ∃ p ∈ l, q = ⟨p.f0 - t, p.f1 - t⟩ ∨ q = ⟨p.f0 - t, p.f1 + t⟩ ∨ q = ⟨p.f0 + t, p.f1 - t⟩ ∨ q = ⟨p.f0 + t, p.f1 + t⟩ := by
 unfold growL
 rw [List.mem_flatMap]
 constructor
 ·rintro ⟨p, hp, hq⟩
  refine ⟨p, hp, ?_⟩
  have := hl p hp
  unfold four at hq
  rw [ww (x := -t) (by omega) (by omega), ww (x := p.f0 + -t) (by omega) (by omega), ww (x := p.f1 + -t) (by omega) (by omega), ww (x := p.f0 + t) (by omega) (by omega), ww (x := p.f1 + t) (by omega) (by omega)] at hq
  simpa only [List.mem_cons, List.not_mem_nil, or_false, ← Int.sub_eq_add_neg] using hq
 ·rintro ⟨p, hp, hq⟩
  refine ⟨p, hp, ?_⟩
  have := hl p hp
  unfold four
  rw [ww (x := -t) (by omega) (by omega), ww (x := p.f0 + -t) (by omega) (by omega), ww (x := p.f1 + -t) (by omega) (by omega), ww (x := p.f0 + t) (by omega) (by omega), ww (x := p.f1 + t) (by omega) (by omega)]
  simpa only [List.mem_cons, List.not_mem_nil, or_false, ← Int.sub_eq_add_neg] using hq
theorem grow_bd {l : List S23} {t : Int} (hl : Within 16777216 l) (h0 : 0 ≤ t) (h1 : t ≤ 33554432) : Within (16777216 + t) (growL l t) := by
 intro q hq
 obtain ⟨p, hp, h⟩ := (grow_mem hl h0 h1).1 hq
 have := hl p hp
 rcases h with rfl | rfl | rfl | rfl <;> dsimp only <;> omega
theorem grow_sep {l b : List S23} {t : Int} (hl : Within 16777216 l) (h0 : 0 ≤ t) (h1 : t ≤ 33554432) {u v : Int} :
  SepD u v (growL l t) b ↔ ∀ p ∈ l, ∀ q ∈ b, dP u v p + t * reach u v < dP u v q := by
 constructor
 ·intro h p hp q hq
  have key : ∃ s ∈ growL l t, dP u v s = dP u v p + t * reach u v := by
   unfold reach dP
   rcases Int.le_total 0 u with gu | gu <;> rcases Int.le_total 0 v with gv | gv
   ·refine ⟨⟨p.f0 + t, p.f1 + t⟩, (grow_mem hl h0 h1).2 ⟨p, hp, by simp⟩, ?_⟩
    rw [show (u.natAbs : Int) = u by omega, show (v.natAbs : Int) = v by omega]; grind
   ·refine ⟨⟨p.f0 + t, p.f1 - t⟩, (grow_mem hl h0 h1).2 ⟨p, hp, by simp⟩, ?_⟩
    rw [show (u.natAbs : Int) = u by omega, show (v.natAbs : Int) = -v by omega]; grind
   ·refine ⟨⟨p.f0 - t, p.f1 + t⟩, (grow_mem hl h0 h1).2 ⟨p, hp, by simp⟩, ?_⟩
    rw [show (u.natAbs : Int) = -u by omega, show (v.natAbs : Int) = v by omega]; grind
   ·refine ⟨⟨p.f0 - t, p.f1 - t⟩, (grow_mem hl h0 h1).2 ⟨p, hp, by simp⟩, ?_⟩
    rw [show (u.natAbs : Int) = -u by omega, show (v.natAbs : Int) = -v by omega]; grind
  obtain ⟨s, hs, e⟩ := key
  have := h s hs q hq
  rw [dP_dt, dP_dt, e] at this; exact this
 ·intro h s hs q hq
  obtain ⟨p, hp, hc⟩ := (grow_mem hl h0 h1).1 hs
  have k := h p hp q hq
  rw [dP_dt, dP_dt]
  have : dP u v s ≤ dP u v p + t * reach u v := by
   unfold reach
   have a1 := abs_mul_le (u := u) (t := t) (x := s.f0 - p.f0) h0 (by rcases hc with rfl | rfl | rfl | rfl <;> dsimp only <;> omega)
   have a2 := abs_mul_le (u := v) (t := t) (x := s.f1 - p.f1) h0 (by rcases hc with rfl | rfl | rfl | rfl <;> dsimp only <;> omega)
   unfold dP
   rw [Int.mul_sub] at a1 a2
   rw [Int.mul_add]; omega
  omega
theorem reach_nn (u v : Int) : 0 ≤ reach u v := by unfold reach; omega
theorem grow_mono {l b : List S23} {s t : Int} (hl : Within 16777216 l) (h0 : 0 ≤ s) (hst : s ≤ t) (h1 : t ≤ 33554432) (h : SepE (growL l t) b) : SepE (growL l s) b := by
 obtain ⟨u, v, h⟩ := h
 refine ⟨u, v, (grow_sep hl h0 (by omega)).2 fun p hp q hq => ?_⟩
 have := (grow_sep hl (by omega) h1).1 h p hp q hq
 have := Int.mul_le_mul_of_nonneg_right hst (reach_nn u v)
 omega
theorem okP_within {l : List S23} (h : okP l = true) : Within 16777216 l := okP_mem.1 h
theorem grown_eq {l : List S23} {t : Int} (hne : 0 < l.length) (hlen : l.length ≤ 256) (hl : Within 16777216 l) (h0 : 0 ≤ t) (h1 : t ≤ 33554432) :
  plane_grown.f l t = some (hull (growL l t)) ∧ IsHu (growL l t) (hull (growL l t)) ∧ BdL (hull (growL l t)) := by
 have hg := grow_bd hl h0 h1
 have hlen' := growL_len l t
 have hb : BdL (growL l t) := fun q hq => by have := hg q hq; unfold Bd; omega
 have H := hull_isH (l := growL l t) (by intro e; rw [e] at hlen'; simp at hlen'; omega)
 exact ⟨corners_some (by omega) (by omega) (bnd_iff.2 hb), H, fun q hq => hb q (H.sub q hq)⟩
theorem apart_grown {a b : List S23} {t : Int} (ha : isHullV a = true) (hb : isHullV b = true) (h0 : 0 ≤ t) (h1 : t ≤ 33554432) :
  ∃ z, plane_grown.f a t = some z ∧ ∃ c, plane_apart.f z b = some c ∧ (c = true ↔ SepE (growL a t) b) := by
 have h := (isHullV_iff.1 ha).1
 obtain ⟨e, H, hz⟩ := grown_eq h.1 h.2.1 (okP_within h.2.2) h0 h1
 refine ⟨_, e, _, apart_eq H.ne (isHullV_isH hb).ne, ?_⟩
 rw [apartV_iff (isHu_self H) (isHullV_isH hb) hz (isHullV_bd hb), sepE_hull H]
def IsGap (a b : List S23) (g : Int) : Prop := (0 ≤ g ∧ g ≤ 33554432) ∧ (∀ t, 0 ≤ t → t < g → SepE (growL a t) b) ∧ (g < 33554432 → ¬ SepE (growL a g) b)
theorem Gap_loop {a b : List S23} (ha : isHullV a = true) (hb : isHullV b = true) (d : Nat) : ∀ (lo hi : Int), (hi - lo).toNat ≤ d → 0 ≤ lo → lo ≤ hi → hi ≤ 33554432 →
  (∀ t, 0 ≤ t → t < lo → SepE (growL a t) b) → (hi < 33554432 → ¬ SepE (growL a hi) b) → ∃ g, IsGap a b g ∧ Ev (fun k => plane_Gap.l0 k a b lo hi) (g, 0) := by
 induction d with
 | zero =>
  intro lo hi hd h0 h1 h2 hs hn
  obtain rfl : lo = hi := by omega
  exact ⟨lo, ⟨⟨h0, h2⟩, hs, hn⟩, Ev.step (f := fun _ => some (lo, 0)) (fun k => by simp only [plane_Gap.l0]; rw [if_neg (by omega)]) (Ev.now _)⟩
 | succ d ih =>
  intro lo hi hd h0 h1 h2 hs hn
  by_cases hlt : lo < hi
  ·have em : wrap64 (Int.tdiv (wrap64 (lo + hi)) 2) = (lo + hi) / 2 := by
    rw [ww (x := lo + hi) (by omega) (by omega), Int.tdiv_eq_ediv_of_nonneg (by omega), ww (by omega) (by omega)]
   obtain ⟨m, hm⟩ : ∃ m, (lo + hi) / 2 = m := ⟨_, rfl⟩
   rw [hm] at em
   have hml : lo ≤ m := by omega
   have hmh : m < hi := by omega
   obtain ⟨z, hz, c, hc, hcs⟩ := apart_grown ha hb (t := m) (by omega) (by omega)
   have hw := okP_within (isHullV_ok ha)
   cases c with
   | true =>
    have hsep := hcs.1 rfl
    obtain ⟨g, hg, hev⟩ := ih (m + 1) hi (by omega) (by omega) (by omega) h2 (fun t ht0 ht1 => grow_mono hw ht0 (by omega) (by omega) hsep) hn
    refine ⟨g, hg, Ev.step (f := fun k => plane_Gap.l0 k a b (m + 1) hi) (fun k => ?_) hev⟩
    simp only [plane_Gap.l0]
    rw [if_pos hlt, em, hz, Option.bind_some, hc, Option.bind_some, if_pos rfl, ww (x := m + 1) (by omega) (by omega)]
   | false =>
    have hsep : ¬ SepE (growL a m) b := fun h => by simpa using hcs.2 h
    obtain ⟨g, hg, hev⟩ := ih lo m (by omega) h0 hml (by omega) hs (fun _ => hsep)
    refine ⟨g, hg, Ev.step (f := fun k => plane_Gap.l0 k a b lo m) (fun k => ?_) hev⟩
    simp only [plane_Gap.l0]
    rw [if_pos hlt, em, hz, Option.bind_some, hc, Option.bind_some, if_neg (by simp)]
  ·obtain rfl : lo = hi := by omega
   exact ⟨lo, ⟨⟨h0, h2⟩, hs, hn⟩, Ev.step (f := fun _ => some (lo, 0)) (fun k => by simp only [plane_Gap.l0]; rw [if_neg (by omega)]) (Ev.now _)⟩
theorem Gap_ev {a b : List S23} (ha : isHullV a = true) (hb : isHullV b = true) : ∃ g, IsGap a b g ∧ Ev (fun k => plane_Gap.f k a b) (g, 0) := by
 obtain ⟨g, hg, hev⟩ := Gap_loop ha hb 33554432 0 33554432 (by omega) (by omega) (by omega) (by omega) (fun t h0 h1 => by omega) (fun h => by omega)
 refine ⟨g, hg, Ev.congr (fun k => ?_) hev⟩
 unfold plane_Gap.f
 rw [checkHs_two ha hb, Option.bind_some, if_pos rfl]
theorem gap_least {a b : List S23} {g h : Int} (hg : IsGap a b g) (hh : (0 ≤ h ∧ h ≤ 33554432) ∧ (h < 33554432 → ¬ SepE (growL a h) b)) : g ≤ h := by
 rcases Int.lt_or_le h g with k | k
 ·exact absurd (hg.2.1 h hh.1.1 k) (hh.2 (by have := hg.1.2; omega))
 ·exact k
end Go.Proofs.Ytegdcnjjelgpjaa.P
namespace Go.Proofs.Ytegdcnjjelgpjaa.P
open Go.RowKit Go.Proofs.YtegdcnjjelgpjaaW.PrintWords Go.Proofs.YtegdcnjjelgpjaaW.PrintLast Go.Proofs.YtegdcnjjelgpjaaW.PrintMore
attribute [local go_sem] max2_int min2_int max_two min_two max_three min_three max_four min_four   -- for this text's walks alone
set_option linter.unusedVariables false
set_option linter.unusedSimpArgs false
def goosenecklaw01_few.l0 : Nat → List (S32) → Int → List (S23) → Int → Option ((List (S23)))
 | 0, _, _, _, _ => none
 | k + 1, x0, x1, x5, x6 => if x6 < (x0.length : Int) then (if x6 < x1 then (if 0 ≤ x6 then (if x5.length < 8796093022208 then (goosenecklaw01_few.l0 k x0 x1 (x5 ++ [(⟨wrap64 ((rd_T32 x0 x6).f0), wrap64 ((rd_T32 x0 x6).f1)⟩ : S23)]) (wrap64 (x6 + 1))) else (none)) else (none)) else (some x5)) else (some x5)
def goosenecklaw01_few.f (k : Nat) (l0 : List (S32)) (a1 : Int) : Option ((List (S23))) := goosenecklaw01_few.l0 k l0 a1 ([] : List (S23)) 0
theorem goosenecklaw01_few.mono_l : ∀ k, (∀ y0 y1 y2 y3, LeO (goosenecklaw01_few.l0 k y0 y1 y2 y3) (goosenecklaw01_few.l0 (k + 1) y0 y1 y2 y3))
 | 0 => fun _ _ _ _ r h => by simp [goosenecklaw01_few.l0] at h
 | k + 1 => by
  have ih0 := goosenecklaw01_few.mono_l k
  ·intro y0 y1 y2 y3
   unfold goosenecklaw01_few.l0
   repeat' first
   | (with_reducible exact ih0 _ _ _ _)
   | (with_reducible exact LeO.refl _)
   | (with_reducible exact LeO.none _)
   | (with_reducible refine LeO.ite ?_ ?_)
   | (with_reducible refine LeO.bind ?_ (fun _ => ?_))
   | exact ih0 _ _ _ _
   | exact LeO.none _
   | refine LeO.ite ?_ ?_
   | refine LeO.bind ?_ (fun _ => ?_)
theorem goosenecklaw01_few.mono : ∀ a0 a1 k, LeO (goosenecklaw01_few.f k a0 a1) (goosenecklaw01_few.f (k + 1) a0 a1) := by
 intro a0 a1 k
 have ih0 := goosenecklaw01_few.mono_l k
 unfold goosenecklaw01_few.f
 repeat' first
   | (with_reducible exact ih0 _ _ _ _)
   | (with_reducible exact LeO.refl _)
   | (with_reducible exact LeO.none _)
   | (with_reducible refine LeO.ite ?_ ?_)
   | (with_reducible refine LeO.bind ?_ (fun _ => ?_))
   | exact ih0 _ _ _ _
   | exact LeO.none _
   | refine LeO.ite ?_ ?_
   | refine LeO.bind ?_ (fun _ => ?_)
def goosenecklaw01_few.T5 : Bool × List (List Nat × List Nat) := (true, [([], []), ([], []), ([], []), ([1, 2], [1, 2]), ([3], [3]), ([4], [4]), ([5], [5]), ([], []), ([], []), ([7, 8], [7, 8]), ([9], [9]), ([10], [10]), ([11], [11]), ([6, 12], [6, 12]), ([13], [13]), ([0, 14], [0, 14]), ([15, 15, 0, 1, 2, 3, 4, 5, 6, 7, 8, 9, 10, 11, 12, 13, 14, 15], [0, 15])])
def goosenecklaw01_few.B5 : List Nat := [0, 0, 0, 6, 14, 30, 62, 0, 0, 384, 896, 1920, 3968, 8190, 16382, 32767, 65535]
theorem goosenecklaw01_few.tab5 : rtab .any (opsOf Try.f45 5) = goosenecklaw01_few.T5 := by kernel_rfl
theorem goosenecklaw01_few.bits5 : waitsOk goosenecklaw01_few.T5.2 goosenecklaw01_few.B5 = true := by kernel_rfl
set_option maxHeartbeats 8000000 in
set_option maxRecDepth 100000 in
theorem goosenecklaw01_few.calls (k : Nat) (A0 : Option Addr) (c0 : Nat) (l0 : List (S32)) (a1 : Int) (r : List (S23)) (w : World) (hr0 : Kd.C k32 w A0 l0.length l0) (hc0 : l0.length ≤ c0) (h : goosenecklaw01_few.f k l0 a1 = some r) :
  Calls Try.prog 45 #[.slice A0 l0.length c0, .int .i64 a1] w fun e w' => ∃ v0_ : Value, e = .returned (v0_) ∧ Kd.R k23 23 w' w.heap.size (fun _ => True) v0_ r ∧ Below w.heap.size w w' := by
 have hu23 := Try.underlying23
 have HR0 := Aside0.mk hr0
 have HC0 := Aside0.mk hc0
 clear hr0 hc0
 have HB := Aside0.mk (Below.refl w.heap.size w)
 have H : (goosenecklaw01_few.l0 k l0 a1 ([] : List (S23)) 0) = some r := h
 clear h
 have H' := Aside0.mk H
 clear H
 go_enter Try.func45, Try.ntmps45
 go_wp2
 go_loopg [5, 6] k (fun kq v5 v6 w' => ∃ (x5_1 : List (S23)) (x6_1 : Int), v6 = .int .i64 x6_1 ∧ Aside0 (goosenecklaw01_few.l0 kq l0 a1 x5_1 x6_1 = some r) ∧ Aside0 (kq ≤ k) ∧ Aside0 (Kd.R k23 23 w' w.heap.size (fun _ => True) v5 x5_1) ∧ Aside0 (Below w.heap.size w w'))
 case atStart => exact ⟨(([] : List (S23))), (0), sB, H', ⟨Nat.le_refl _⟩, ⟨by first | exact Kd.R_nil _ _ _ _ _ | exact Kd.N_nil _ _ _ _ _ | exact Kd.V_nil _ _ _ _ _ | exact Kd.Q_nil _ _ _ _ _ | exact Kd.S_nil _ _ _ _ _⟩, ⟨bB0 HB⟩⟩
 case round =>
  clear H'
  try clear p2
  obtain ⟨x5_1, x6_1, rfl, HA, HK1, HO_5, HB⟩ := hrel
  cases gk with
  | zero => exact absurd HA.out (by simp [goosenecklaw01_few.l0])
  | succ k1 =>
   have H := HA.out
   clear HA
   simp only [goosenecklaw01_few.l0] at H
   by_cases c3 : x6_1 < (l0.length : Int)
   ·rw [if_pos c3] at H
    have c3b0 : decide (x6_1 < (l0.length : Int)) = true := decide_eq_true c3
    clear c3
    by_cases c4 : x6_1 < a1
    ·rw [if_pos c4] at H
     have c4b0 : decide (x6_1 < a1) = true := decide_eq_true c4
     clear c4
     by_cases c5 : 0 ≤ x6_1
     ·rw [if_pos c5] at H
      have c5b0 : decide (0 ≤ x6_1) = true := decide_eq_true c5
      clear c5
      by_cases c6 : x5_1.length < 8796093022208
      ·rw [if_pos c6] at H
       have LMc6 := Aside0.mk c6
       clear c6
       obtain ⟨y103, hy103⟩ : ∃ y_ : List (S23), y_ = (x5_1 ++ [(⟨wrap64 ((rd_T32 l0 x6_1).f0), wrap64 ((rd_T32 l0 x6_1).f1)⟩ : S23)]) := ⟨_, rfl⟩
       replace H : (goosenecklaw01_few.l0 k1 l0 a1 y103 (wrap64 (x6_1 + 1))) = some r := by first | (rw [hy103]; with_reducible exact H) | (have H2_ := (Option.bind_some _ _).symm.trans H; rw [hy103]; with_reducible exact H2_) | (have H2_ := (Option.bind_some _ _).symm.trans H; with_reducible exact H2_) | with_reducible exact H | (rw [hy103]; exact H) | exact H
       have Ny103 := Aside0.mk hy103
       clear hy103
       have H' := Aside0.mk H
       clear H
       try go_wp2
       replace HO_5 := Aside0.mk (Kd.R_drew HO_5.out)
       replace HB := Aside0.mk (below_drew1 HB.out)
       have p101 : 0 ≤ (x6_1 : Int) := oB
       have q101 : x6_1 < (l0.length : Int) := oB
       obtain ⟨ad101, e101, hx101_0, hx101_1⟩ := at_T32 HR0.out x6_1 p101 q101
       have hw101_1 := hx101_1
       have hw101_0 := hx101_0
       cases e101
       replace hx101_0 := (HB.out.cell (World.block_lt_of_cell? w _ hx101_0)).trans hx101_0
       replace hx101_1 := (HB.out.cell (World.block_lt_of_cell? w _ hx101_1)).trans hx101_1
       replace p101 := eq_true p101
       replace q101 := eq_true q101
       have p102 : 0 ≤ (x6_1 : Int) := oB
       have q102 : x6_1 < (l0.length : Int) := oB
       obtain ⟨ad102, e102, hx102_0, hx102_1⟩ := at_T32 HR0.out x6_1 p102 q102
       have hw102_1 := hx102_1
       have hw102_0 := hx102_0
       obtain rfl : ad101 = ad102 := (by injection e102)
       replace hx102_0 := (HB.out.cell (World.block_lt_of_cell? w _ hx102_0)).trans hx102_0
       replace hx102_1 := (HB.out.cell (World.block_lt_of_cell? w _ hx102_1)).trans hx102_1
       replace p102 := eq_true p102
       replace q102 := eq_true q102
       refine start_ (n := 17) (S := fun w' => w'.cell? (ad101.add ((x6_1).toNat * 2)) = some (.int .i8 ((rd_T32 l0 x6_1).f0)) ∧ w'.cell? ⟨(ad101.add ((x6_1).toNat * 2)).block, (ad101.add ((x6_1).toNat * 2)).off + 1, none⟩ = some (.int .i8 ((rd_T32 l0 x6_1).f1)) ∧ w'.cell? (ad101.add ((x6_1).toNat * 2)) = some (.int .i8 ((rd_T32 l0 x6_1).f0)) ∧ w'.cell? ⟨(ad101.add ((x6_1).toNat * 2)).block, (ad101.add ((x6_1).toNat * 2)).off + 1, none⟩ = some (.int .i8 ((rd_T32 l0 x6_1).f1))) (ds := []) #[false, false, false, false, false, false, false, false, false, false, false, false, false, false, false, false, false] (by kernel_rfl) rfl rfl ⟨((HB.out.cell (World.block_lt_of_cell? w _ hw101_0)).trans hw101_0), ((HB.out.cell (World.block_lt_of_cell? w _ hw101_1)).trans hw101_1), ((HB.out.cell (World.block_lt_of_cell? w _ hw102_0)).trans hw102_0), ((HB.out.cell (World.block_lt_of_cell? w _ hw102_1)).trans hw102_1)⟩ (fun hHeld => ?_); refine with_tabW goosenecklaw01_few.tab5 goosenecklaw01_few.bits5 (fun HT_ HW_ => ?_)
       generalize wr.drew = w7 at HO_5 HB hx101_0 hx101_1 hx102_0 hx102_1 hHeld ⊢
       refine pS 0 (some 18) HT_ ?_
       refine pS 1 (some 19) HT_ ?_
       refine pS 2 (some 20) HT_ ?_
       refine pS 3 (some 21) HT_ ?_
       refine pS 4 (some 22) HT_ ?_
       refine pS 7 (some 25) HT_ ?_
       refine pS 8 (some 26) HT_ ?_
       refine pS 9 (some 27) HT_ ?_
       refine pS 10 (some 28) HT_ ?_
       refine tS 5 (some 23) rfl rfl HT_ HW_ hHeld (by rintro w' ⟨s0, s1, s2, s3⟩; go_simp; with_reducible rfl) ?_
       refine pS 6 (some 24) HT_ ?_
       refine tS 11 (some 29) rfl rfl HT_ HW_ hHeld (by rintro w' ⟨s0, s1, s2, s3⟩; go_simp; with_reducible rfl) ?_
       refine pS 12 (some 30) HT_ ?_
       refine pS 13 (some 31) HT_ ?_
       refine one_ (i := 14) (N := some 32) #[true, true, true, true, true, true, true, true, true, true, true, true, true, true, true, false, false] rfl rfl (one_of HT_.out (by kernel_rfl)) (by decide) (fun K hK => ?_)
       refine value_ (w1 := ?_) (v := ?_) (by rfl) rfl ?_ ?_
       rotate_left 2
       ·go_simp
        constructor
        ·rfl
        ·rfl
       refine hK.out _ _ ⟨(World.cell?_alloc_lt _ _ _ (World.block_lt_of_cell? _ _ (((HB.out.cell (World.block_lt_of_cell? w _ hw101_0)).trans hw101_0)))).trans (((HB.out.cell (World.block_lt_of_cell? w _ hw101_0)).trans hw101_0)), (World.cell?_alloc_lt _ _ _ (World.block_lt_of_cell? _ _ (((HB.out.cell (World.block_lt_of_cell? w _ hw101_1)).trans hw101_1)))).trans (((HB.out.cell (World.block_lt_of_cell? w _ hw101_1)).trans hw101_1)), (World.cell?_alloc_lt _ _ _ (World.block_lt_of_cell? _ _ (((HB.out.cell (World.block_lt_of_cell? w _ hw102_0)).trans hw102_0)))).trans (((HB.out.cell (World.block_lt_of_cell? w _ hw102_0)).trans hw102_0)), (World.cell?_alloc_lt _ _ _ (World.block_lt_of_cell? _ _ (((HB.out.cell (World.block_lt_of_cell? w _ hw102_1)).trans hw102_1)))).trans (((HB.out.cell (World.block_lt_of_cell? w _ hw102_1)).trans hw102_1))⟩ (fun hHeld => ?_)
       clear hK K
       refine nZ (some 32) ?_
       refine one_ (i := 15) (N := some 33) #[true, true, true, true, true, true, true, true, true, true, true, true, true, true, true, true, false] rfl rfl (one_of HT_.out (by kernel_rfl)) (by decide) (fun K hK => ?_)
       refine Kd.R_append_step k23 (w0 := w) w.heap.size (by rfl) (.tmp 18) (.tmp 32) 53 23 (.agg #[(.int .i64 0), (.int .i64 0)]) 16 rfl Try.underlying53 info23 rfl (by decide) (by omega) u5 x5_1 (⟨wrap64 ((rd_T32 l0 x6_1).f0), wrap64 ((rd_T32 l0 x6_1).f1)⟩ : S23) [.int .i64 (wrap64 ((rd_T32 l0 x6_1).f0)), .int .i64 (wrap64 ((rd_T32 l0 x6_1).f1))] (fun _ => True) (fun _ => False) rfl rfl ?aP (fun _ hk => hk.elim) ?aF ?aO ?aB ?aS ?aL ?_
       (case aP => exact k23_mkM _ _ _ (⟨wrap64 ((rd_T32 l0 x6_1).f0), wrap64 ((rd_T32 l0 x6_1).f1)⟩ : S23))
       (case aB => exact (bB0 HB))
       (case aF => exact (fun _ _ => trivial))
       (case aO => exact (rB HO_5))
       (case aS => exact (below_size (bB0 HB)))
       (case aL => have := LMc6.out; omega)
       intro v104 w8 ho hb hg hat
       rw [← Ny103.out] at ho
       replace HB := Aside0.mk (hb)
       have HO105 := Aside0.mk (ho)
       clear HO_5
       clear ho hb hg hat
       refine hK.out _ _ ⟨((HB.out.cell (World.block_lt_of_cell? w _ hw101_0)).trans hw101_0), ((HB.out.cell (World.block_lt_of_cell? w _ hw101_1)).trans hw101_1), ((HB.out.cell (World.block_lt_of_cell? w _ hw102_0)).trans hw102_0), ((HB.out.cell (World.block_lt_of_cell? w _ hw102_1)).trans hw102_1)⟩ (fun hHeld => ?_)
       clear hK K
       refine nZ (some 33) ?_
       refine pS 16 (some 5) HT_ ?_
       refine done_ (done_of HT_.out (by kernel_rfl)) ?_
       try go_wp2
       go_roundg k1
       case measure => have := HK1.out; omega
       case rel => exact ⟨(y103), (wrap64 (x6_1 + 1)), sB, H', ⟨by have := HK1.out; omega⟩, ⟨rB HO105⟩, ⟨bB0 HB⟩⟩
      ·rw [if_neg c6] at H
       exact absurd H (by simp)
     ·rw [if_neg c5] at H
      exact absurd H (by simp)
    ·rw [if_neg c4] at H
     have c4b0 : decide (x6_1 < a1) = false := decide_eq_false c4
     clear c4
     obtain rfl := Option.some.inj H
     go_wp2
     go_ret
     exact ⟨_, eB, rB HO_5, bB0 HB⟩
   ·rw [if_neg c3] at H
    have c3b0 : decide (x6_1 < (l0.length : Int)) = false := decide_eq_false c3
    clear c3
    obtain rfl := Option.some.inj H
    go_wp2
    go_ret
    exact ⟨_, eB, rB HO_5, bB0 HB⟩
end Go.Proofs.Ytegdcnjjelgpjaa.P
namespace Go.Proofs.Ytegdcnjjelgpjaa.P
open Go.RowKit Go.Proofs.YtegdcnjjelgpjaaW.PrintWords Go.Proofs.YtegdcnjjelgpjaaW.PrintLast Go.Proofs.YtegdcnjjelgpjaaW.PrintMore
end Go.Proofs.Ytegdcnjjelgpjaa.P
