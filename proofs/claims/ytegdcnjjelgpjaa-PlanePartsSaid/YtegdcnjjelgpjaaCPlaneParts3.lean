/- The law PlaneParts answers true at every input and leaves its arguments as they were; no condition. Part 4 of 5. -/
import Derived.Test.YtegdcnjjelgpjaaCPlaneParts2
import Derived.Test.YtegdcnjjelgpjaaCPlaneParts0
import Derived.Test.YtegdcnjjelgpjaaCPlaneParts1
set_option linter.unusedVariables false
set_option linter.unusedSimpArgs false
namespace Go.Proofs.Ytegdcnjjelgpjaa.P
open Go.RowKit Go.Shelf Go.Proofs.Ytegdcnjjelgpjaa.O Go.Proofs.YtegdcnjjelgpjaaW.PrintWords Go.Proofs.YtegdcnjjelgpjaaW.PrintLast Go.Proofs.YtegdcnjjelgpjaaW.PrintMore
attribute [local go_sem] Oper.semAt_some
set_option linter.unusedVariables false
set_option linter.unusedSimpArgs false
def dir4 (s : S23 × S23) : List S75 := [⟨wrap64 (s.2.f1 - s.1.f1), wrap64 (-(wrap64 (s.2.f0 - s.1.f0))), 0⟩, ⟨wrap64 (-(wrap64 (s.2.f1 - s.1.f1))), wrap64 (s.2.f0 - s.1.f0), 0⟩, ⟨wrap64 (s.2.f0 - s.1.f0), wrap64 (s.2.f1 - s.1.f1), 0⟩, ⟨wrap64 (-(wrap64 (s.2.f0 - s.1.f0))), wrap64 (-(wrap64 (s.2.f1 - s.1.f1))), 0⟩]
def dirs (h : List S23) : List S75 := (sideL h).flatMap dir4
def dir0 (a b : List S23) : S75 := ⟨wrap64 ((rd_T23 b 0).f0 - (rd_T23 a 0).f0), wrap64 ((rd_T23 b 0).f1 - (rd_T23 a 0).f1), 0⟩
def partL (a b : List S23) : List S75 := dir0 a b :: (dirs a ++ dirs b)
def plane_part.f (l0 : List (S23)) (l1 : List (S23)) : Option (Int × Int × Int × Bool) := if 0 < l0.length ∧ 0 < l1.length then some (lineR (tryO l0 l1 (partL l0 l1))) else none
theorem results_lb {fn : Func} {p p' : Tmp} (h : fn.results = #[.cell p 75, .cell p' 4]) (tmps : Array Value) (w : World) (g : Nat) (cs : Array Value) (g' : Nat) (v : Value)
    (hp : tmps.getD p undef = .pointer (some ⟨g, 0, none⟩)) (hp' : tmps.getD p' undef = .pointer (some ⟨g', 0, none⟩)) (hg : w.heap[g]? = some (.cells cs 75 (0, 0))) (hc : w.cell? ⟨g', 0, none⟩ = some v) (hs : cs.size = 3) :
    (results fn tmps).run Try.prog w = .ok (.tuple #[.agg cs, v]) w := by
  have hu75 := Try.underlying75
  have h1 : tmps[p]?.getD undef = .pointer (some ⟨g, 0, none⟩) := by simpa using hp
  have h2 : tmps[p']?.getD undef = .pointer (some ⟨g', 0, none⟩) := by simpa using hp'
  have hi : (Try.prog.info? 75).map (·.size) = some cs.size := by rw [hs]; kernel_rfl
  have hb : (isAgg 4).run Try.prog w = .ok false w := by kernel_rfl
  have hl : (loadVar 4 ⟨g', 0, none⟩).run Try.prog w = .ok v w := by
    unfold loadVar
    simp [Sem.run_bind, hb, Result.andThen, go_sem, hc]
  simp [results, h, h1, h2, asAddr, run_loadVar_row w g 75 75 cs (0, 0) _ hg hu75 rfl hi, hl]
structure PInv (B : Nat) (w : World) (va vb : Value) (hi : Nat) (ds : List Deferred) (W : World) : Prop where
  below : Below B w W
  size : B + 4 ≤ hi ∧ hi ≤ W.heap.size
  ha : W.heap[B]? = some (.cells #[va] 53 (0, 0))
  hb : W.heap[B + 1]? = some (.cells #[vb] 53 (0, 0))
  hl : W.heap[B + 1 + 1]? = some (.cells (lineC z75) 75 (0, 0))
  hf : W.heap[B + 1 + 1 + 1]? = some (.cells #[.bool false] 4 (0, 0))
  coll : Coll (B + 4) hi ds W
theorem PInv.step {B : Nat} {w : World} {va vb : Value} {hi X : Nat} {ds : List Deferred} {W W' : World} (h : PInv B w va vb hi ds W) (hb : Below X W W') (hX : hi ≤ X) : PInv B w va vb hi ds W' := by
  have h1 := h.size
  have h2 := hb.size
  exact ⟨h.below.trans (hb.mono (by omega)), by omega, keep_below hb (by omega) h.ha, keep_below hb (by omega) h.hb, keep_below hb (by omega) h.hl, keep_below hb (by omega) h.hf, h.coll.below hb hX⟩
theorem PInv.up {B : Nat} {w : World} {va vb : Value} {hi : Nat} {ds : List Deferred} {W : World} (h : PInv B w va vb hi ds W) : PInv B w va vb W.heap.size ds W :=
  ⟨h.below, ⟨by have := h.size; omega, Nat.le_refl _⟩, h.ha, h.hb, h.hl, h.hf, h.coll.mono h.size.2⟩
structure PEnd (B : Nat) (w : World) (hi : Nat) (ds : List Deferred) (x : S75) (b : Bool) (W : World) : Prop where
  below : Below B w W
  size : B + 4 ≤ hi ∧ hi ≤ W.heap.size
  hl : W.heap[B + 1 + 1]? = some (.cells (lineC x) 75 (0, 0))
  hf : W.heap[B + 1 + 1 + 1]? = some (.cells #[.bool b] 4 (0, 0))
  coll : Coll (B + 4) hi ds W
theorem PEnd.step {B : Nat} {w : World} {hi X : Nat} {ds : List Deferred} {x : S75} {b : Bool} {W W' : World} (h : PEnd B w hi ds x b W) (hb : Below X W W') (hX : hi ≤ X) : PEnd B w hi ds x b W' := by
  have h1 := h.size
  have h2 := hb.size
  exact ⟨h.below.trans (hb.mono (by omega)), by omega, keep_below hb (by omega) h.hl, keep_below hb (by omega) h.hf, h.coll.below hb hX⟩
theorem part_store {B hi : Nat} {w : World} {va vb : Value} {ds : List Deferred} {V : World} (x0 x1 x2 : Int) (b : Bool) (J : PInv B w va vb hi ds V) :
    PEnd B w hi ds ⟨x0, x1, x2⟩ b ((((V.setCell ⟨B + 1 + 1, 0, none⟩ (.int .i64 x0)).setCell ⟨B + 1 + 1, 1, none⟩ (.int .i64 x1)).setCell ⟨B + 1 + 1, 2, none⟩ (.int .i64 x2)).setCell ⟨B + 1 + 1 + 1, 0, none⟩ (.bool b)) ∧
    ∀ D, B + 4 ≤ D → Recs D V ((((V.setCell ⟨B + 1 + 1, 0, none⟩ (.int .i64 x0)).setCell ⟨B + 1 + 1, 1, none⟩ (.int .i64 x1)).setCell ⟨B + 1 + 1, 2, none⟩ (.int .i64 x2)).setCell ⟨B + 1 + 1 + 1, 0, none⟩ (.bool b)) := by
  show PEnd B w hi ds ⟨x0, x1, x2⟩ b ((put3 V (B + 1 + 1) ⟨x0, x1, x2⟩).setCell ⟨B + 1 + 1 + 1, 0, none⟩ (.bool b)) ∧ ∀ D, B + 4 ≤ D → Recs D V ((put3 V (B + 1 + 1) ⟨x0, x1, x2⟩).setCell ⟨B + 1 + 1 + 1, 0, none⟩ (.bool b))
  have hbe : Below (B + 1 + 1) V ((put3 V (B + 1 + 1) ⟨x0, x1, x2⟩).setCell ⟨B + 1 + 1 + 1, 0, none⟩ (.bool b)) := (put3_below (Nat.le_refl _)).setCell (p := ⟨B + 1 + 1 + 1, 0, none⟩) (by simp) _
  have q5 : (put3 V (B + 1 + 1) ⟨x0, x1, x2⟩).heap[B + 1 + 1 + 1]? = some (.cells #[.bool false] 4 (0, 0)) := by rw [put3_far (by omega)]; exact J.hf
  have far : ∀ q, B + 4 ≤ q → ((put3 V (B + 1 + 1) ⟨x0, x1, x2⟩).setCell ⟨B + 1 + 1 + 1, 0, none⟩ (.bool b)).heap[q]? = V.heap[q]? := fun q hq => by
    rw [Below.heap_setCell _ _ _ _ (by simp; omega), put3_far (by omega)]
  refine ⟨⟨J.below.trans (hbe.mono (by omega)), ⟨J.size.1, Nat.le_trans J.size.2 hbe.size⟩, ?_, ?_, J.coll.same fun q hq _ => far q hq⟩, fun D hD => ⟨far D hD, far (D + 1) (by omega)⟩⟩
  · rw [Below.heap_setCell _ _ _ _ (by simp)]; exact put3_blk _ J.hl
  · exact blk_set q5 0 (.bool b)
theorem try_in (aa ab : Addr) (na nb ca cb g m : Nat) (l0 l1 : List S23) (L : List S75) (r1 r2 r3 : Int) (r4 : Bool) (w V : World) (h0 : 0 < l0.length) (h1 : 0 < l1.length) (hna : l0.length = na) (hnb : l1.length = nb)
    (hr0 : Kd.C k23 w (some aa) l0.length l0) (hca : l0.length ≤ ca) (hr1 : Kd.C k23 w (some ab) l1.length l1) (hcb : l1.length ≤ cb) (hV : Below w.heap.size w V) (hL : L.length < 1000) (hm : L.length = m) (hr2 : Kd.C k75 V (some ⟨g, 0, none⟩) m L) (hr : lineR (tryO l0 l1 L) = (r1, r2, r3, r4)) :
    CallsIn Fence.wide 0 Try.prog 123 #[.slice (some aa) na ca, .slice (some ab) nb cb, .slice (some ⟨g, 0, none⟩) m m] V fun e W' => e = .returned (.tuple #[.agg #[.int .i64 r1, .int .i64 r2, .int .i64 r3], .bool r4]) ∧ Below V.heap.size V W' := by
  subst hna hnb hm
  obtain ⟨k, hk⟩ := (try_ev l0 l1 h0 h1 L hL).rounds
  rw [hr] at hk
  exact callsIn_w (plane_try.calls k (some aa) ca l0 (some ab) cb l1 (some ⟨g, 0, none⟩) L.length L r1 r2 r3 r4 V (Kd.C_below hr0 hV) hca (Kd.C_below hr1 hV) hcb hr2 (Nat.le_refl _) hk)
set_option maxRecDepth 100000 in
set_option maxHeartbeats 1000000 in
theorem part_in (aa ab : Addr) (ca cb : Nat) (l0 l1 : List S23) (w : World) (h0 : 0 < l0.length) (h1 : 0 < l1.length)
    (hr0 : Kd.C k23 w (some aa) l0.length l0) (hca : l0.length ≤ ca) (hr1 : Kd.C k23 w (some ab) l1.length l1) (hcb : l1.length ≤ cb) :
    CallsIn Fence.wide 0 Try.prog 106 #[.slice (some aa) l0.length ca, .slice (some ab) l1.length cb] w fun e W' =>
      e = .returned (.tuple #[.agg #[.int .i64 (lineR (tryO l0 l1 (partL l0 l1))).1, .int .i64 (lineR (tryO l0 l1 (partL l0 l1))).2.1, .int .i64 (lineR (tryO l0 l1 (partL l0 l1))).2.2.1], .bool (lineR (tryO l0 l1 (partL l0 l1))).2.2.2]) ∧ Below w.heap.size w W' := by
  have hu75 := Try.underlying75
  have hu23 := Try.underlying23
  obtain ⟨A', eA, xa0, xa1⟩ := at_T23 hr0 0 (by omega) (by omega)
  obtain rfl : aa = A' := Option.some.inj eA
  obtain ⟨B', eB, xb0, xb1⟩ := at_T23 hr1 0 (by omega) (by omega)
  obtain rfl : ab = B' := Option.some.inj eB
  rw [show ((0 : Int)).toNat = 0 from rfl, show 0 * 2 = 0 from rfl, Addr.add_zero'] at xa0 xa1 xb0 xb1
  obtain ⟨a0, ha0⟩ : ∃ p, rd_T23 l0 0 = p := ⟨_, rfl⟩
  obtain ⟨b0, hb0⟩ : ∃ p, rd_T23 l1 0 = p := ⟨_, rfl⟩
  obtain ⟨dx, hdx⟩ : ∃ d, wrap64 (b0.f0 - a0.f0) = d := ⟨_, rfl⟩
  obtain ⟨dy, hdy⟩ : ∃ d, wrap64 (b0.f1 - a0.f1) = d := ⟨_, rfl⟩
  have HPL : Aside0 (partL l0 l1 = ⟨dx, dy, 0⟩ :: (dirs l0 ++ dirs l1)) := ⟨by unfold partL dir0; rw [ha0, hb0, hdx, hdy]⟩
  rw [ha0] at xa0 xa1
  rw [hb0] at xb0 xb1
  have w1 : IntKind.i64.wrap (b0.f0 - a0.f0) = dx := by rw [i64_w]; exact hdx
  have w2 : IntKind.i64.wrap (b0.f1 - a0.f1) = dy := by rw [i64_w]; exact hdy
  obtain ⟨⟨r1, r2, r3, r4⟩, hr⟩ : ∃ r, lineR (tryO l0 l1 [⟨dx, dy, 0⟩]) = r := ⟨_, rfl⟩
  have HR := Aside0.mk hr
  obtain ⟨na, hna⟩ : ∃ n, l0.length = n := ⟨_, rfl⟩
  obtain ⟨nb, hnb⟩ : ∃ n, l1.length = n := ⟨_, rfl⟩
  have HTR : Aside0 (∀ (L : List S75) (g m : Nat) (V : World) (s1 s2 s3 : Int) (s4 : Bool), Below w.heap.size w V → L.length < 1000 → L.length = m → Kd.C k75 V (some ⟨g, 0, none⟩) m L → lineR (tryO l0 l1 L) = (s1, s2, s3, s4) →
      CallsIn Fence.wide 0 Try.prog 123 #[.slice (some aa) na ca, .slice (some ab) nb cb, .slice (some ⟨g, 0, none⟩) m m] V fun e W' => e = .returned (.tuple #[.agg #[.int .i64 s1, .int .i64 s2, .int .i64 s3], .bool s4]) ∧ Below V.heap.size V W') :=
    ⟨fun L g m V s1 s2 s3 s4 a b c d e => try_in aa ab na nb ca cb g m l0 l1 L s1 s2 s3 s4 w V h0 h1 hna hnb hr0 hca hr1 hcb a b c d e⟩
  have HTRY : Aside0 (∀ (g : Nat) (V : World), Below w.heap.size w V → V.heap[g]? = some (.cells #[.int .i64 dx, .int .i64 dy, .int .i64 0] 75 (0, 0)) →
      CallsIn Fence.wide 0 Try.prog 123 #[.slice (some aa) na ca, .slice (some ab) nb cb, .slice (some ⟨g, 0, none⟩) 1 1] V fun e W' => e = .returned (.tuple #[.agg #[.int .i64 r1, .int .i64 r2, .int .i64 r3], .bool r4]) ∧ Below V.heap.size V W') :=
    ⟨fun g V a b => HTR.out [⟨dx, dy, 0⟩] g 1 V r1 r2 r3 r4 a (by simp) rfl (line1_C ⟨dx, dy, 0⟩ b) hr⟩
  have HNA := Aside0.mk hna
  have HNB := Aside0.mk hnb
  have HRA := Aside0.mk hr0
  have HRB := Aside0.mk hr1
  have HCA := Aside0.mk hca
  have HCB := Aside0.mk hcb
  have g1 : 0 < na := by omega
  have g2 : 0 < nb := by omega
  have g3 : (0 : Int) < (na : Int) := by omega
  have g4 : (0 : Int) < (nb : Int) := by omega
  rw [hna, hnb]
  obtain ⟨B, hB⟩ : ∃ B, w.heap.size = B := ⟨_, rfl⟩
  obtain ⟨W1, hW1⟩ : ∃ W1, (((w.alloc (.cells #[.slice (some aa) na ca] 53 (0, 0))).alloc (.cells #[.slice (some ab) nb cb] 53 (0, 0))).alloc (.cells (lineC z75) 75 (0, 0))).alloc (.cells #[.bool false] 4 (0, 0)) = W1 := ⟨_, rfl⟩
  have J1 : PInv B w (.slice (some aa) na ca) (.slice (some ab) nb cb) W1.heap.size [] W1 := by
    rw [← hW1]; subst hB
    refine ⟨((((Below.refl _ _).alloc (Nat.le_refl _) _).alloc (by simp) _).alloc (by simp; omega) _).alloc (by simp; omega) _, by simp, blk_alloc (blk_alloc (blk_alloc (blk_new _ _) _) _) _, ?_, ?_, ?_, trivial⟩
    · refine blk_alloc (blk_alloc ?_ _) _
      have := blk_new (w.alloc (.cells #[.slice (some aa) na ca] 53 (0, 0))) (.cells #[.slice (some ab) nb cb] 53 (0, 0))
      rwa [World.size_alloc] at this
    · refine blk_alloc ?_ _
      have := blk_new ((w.alloc (.cells #[.slice (some aa) na ca] 53 (0, 0))).alloc (.cells #[.slice (some ab) nb cb] 53 (0, 0))) (.cells (lineC z75) 75 (0, 0))
      rwa [World.size_alloc, World.size_alloc] at this
    · have := blk_new (((w.alloc (.cells #[.slice (some aa) na ca] 53 (0, 0))).alloc (.cells #[.slice (some ab) nb cb] 53 (0, 0))).alloc (.cells (lineC z75) 75 (0, 0))) (.cells #[.bool false] 4 (0, 0))
      rwa [World.size_alloc, World.size_alloc, World.size_alloc] at this
  have HW1 : Aside0 (Below w.heap.size w W1) := ⟨hB ▸ J1.below⟩
  replace xa0 := (HW1.out.cell (World.block_lt_of_cell? w _ xa0)).trans xa0
  replace xa1 := (HW1.out.cell (World.block_lt_of_cell? w _ xa1)).trans xa1
  replace xb0 := (HW1.out.cell (World.block_lt_of_cell? w _ xb0)).trans xb0
  replace xb1 := (HW1.out.cell (World.block_lt_of_cell? w _ xb1)).trans xb1
  have ca0 : W1.cell? ⟨B, 0, none⟩ = some (.slice (some aa) na ca) := (blk_cell J1.ha 0).trans rfl
  have cb0 : W1.cell? ⟨B + 1, 0, none⟩ = some (.slice (some ab) nb cb) := (blk_cell J1.hb 0).trans rfl
  have KA := Aside0.mk (blk_lt J1.ha)
  have KBB := Aside0.mk (blk_lt J1.hb)
  have J1A := Aside0.mk J1
  have HBe := Aside0.mk hB
  simp only [lineC, z75] at hW1
  clear ha0 hb0 hdx hdy hr hna hnb hr0 hr1 hca hcb J1 h0 h1 eA eB
  refine callsIn_of_wp_marks Try.func106 rfl trivial ?_ rfl
  simp only [Try.ntmps106, List.size_toArray, List.length_cons, List.length_nil, Nat.reduceAdd, Nat.reduceSub, Array.replicate_succ, Array.replicate_zero, List.push_toArray, List.append_toArray, List.nil_append, List.cons_append]
  gi_wp2
  refine wpIn_region_any (by kernel_rfl) ?_
  change wpAnyIn _ _ _ _ _ _ _ _ _ (World.drew W1)
  refine wpAnyIn_inv (fun listed a V' => ∃ gs g6 x6, a = { tmps := (.slice (some aa) na ca :: .slice (some ab) nb cb :: .pointer (some ⟨B, 0, none⟩) :: .pointer (some ⟨B + 1, 0, none⟩) :: .pointer (some ⟨B + 1 + 1, 0, none⟩) :: .pointer (some ⟨B + 1 + 1 + 1, 0, none⟩) :: selOr listed 26 (.pointer (some ⟨g6, 0, none⟩)) undef :: selOr listed 28 (.bool r4) undef :: undef :: undef :: undef :: undef :: undef :: undef :: undef :: undef :: selOr listed 23 (.tuple #[.agg #[.int .i64 r1, .int .i64 r2, .int .i64 r3], .bool r4]) undef :: selOr listed 0 (.slice (some aa) na ca) undef :: selOr listed 1 (.slice (some ab) nb cb) undef :: selOr listed 2 (.slice (some ab) nb cb) undef :: selOr listed 3 (.pointer (some ab)) undef :: selOr listed 4 (.pointer (some ab)) undef :: selOr listed 5 (.int .i64 b0.f0) undef :: selOr listed 6 (.slice (some aa) na ca) undef :: selOr listed 7 (.pointer (some aa)) undef :: selOr listed 8 (.pointer (some aa)) undef :: selOr listed 9 (.int .i64 a0.f0) undef :: selOr listed 10 (.int .i64 dx) undef :: selOr listed 11 (.slice (some ab) nb cb) undef :: selOr listed 12 (.pointer (some ab)) undef :: selOr listed 13 (.pointer (some ⟨ab.block, ab.off + 1, none⟩)) undef :: selOr listed 14 (.int .i64 b0.f1) undef :: selOr listed 15 (.slice (some aa) na ca) undef :: selOr listed 16 (.pointer (some aa)) undef :: selOr listed 17 (.pointer (some ⟨aa.block, aa.off + 1, none⟩)) undef :: selOr listed 18 (.int .i64 a0.f1) undef :: selOr listed 19 (.int .i64 dy) undef :: selOr listed 20 (.agg #[.int .i64 dx, .int .i64 dy, .int .i64 0]) undef :: selOr listed 21 (.slice (some ⟨gs, 0, none⟩) 1 1) undef :: selOr listed 22 (.tuple #[.agg #[.int .i64 r1, .int .i64 r2, .int .i64 r3], .bool r4]) undef :: selOr listed 24 (.agg #[.int .i64 r1, .int .i64 r2, .int .i64 r3]) undef :: selOr listed 25 (.bool r4) undef :: undef :: undef :: undef :: undef :: undef :: undef :: undef :: undef :: undef :: undef :: undef :: undef :: undef :: undef :: undef :: undef :: undef :: undef :: undef :: undef :: undef :: undef :: undef :: undef :: undef :: undef :: undef :: undef :: undef :: undef :: undef :: undef :: undef :: undef :: undef :: undef :: undef :: undef :: undef :: undef :: undef :: undef :: undef :: undef :: undef :: undef :: undef :: undef :: undef :: []).toArray, defers := [] } ∧ Below W1.heap.size W1 V' ∧ (listed.getD 21 false = true → listed.getD 22 false = false → V'.heap[gs]? = some (.cells #[.int .i64 dx, .int .i64 dy, .int .i64 0] 75 (0, 0))) ∧ (listed.getD 26 false = true → W1.heap.size ≤ g6 ∧ V'.heap[g6]? = some (.cells (lineC x6) 75 (0, 0))) ∧ (listed.getD 27 false = true → x6 = ⟨r1, r2, r3⟩)) 36 ?stepq ?stopq ?finq 29 _ _ _ (by simp) (closed_none _) ⟨0, 0, z75, by simp [selOr], (Below.refl _ _).drew, by simp, by simp, by simp⟩ (by simp)
  case stopq =>
    intro listed a V' fuel hs hc hi hr
    have := (ready_lt hr).1
    simp at hs
    omega
  case stepq =>
    rintro listed a V' i hs hc ⟨gs, g6, x6, rfl, q1, q2, q3, q4⟩ hr hne K hK
    obtain ⟨hlt', hl0⟩ := ready_lt hr
    have cca0 := (q1.cell (p := ⟨B, 0, none⟩) KA.out).trans ca0
    have ccb0 := (q1.cell (p := ⟨B + 1, 0, none⟩) KBB.out).trans cb0
    have cxa0 := (q1.cell (World.block_lt_of_cell? W1 _ xa0)).trans xa0
    have cxa1 := (q1.cell (World.block_lt_of_cell? W1 _ xa1)).trans xa1
    have cxb0 := (q1.cell (World.block_lt_of_cell? W1 _ xb0)).trans xb0
    have cxb1 := (q1.cell (World.block_lt_of_cell? W1 _ xb1)).trans xb1
    clear ca0 cb0 xa0 xa1 xb0 xb1
    have hwV : Below w.heap.size w V' := HW1.out.trans (q1.mono HW1.out.size)
    have hi : i = 0 ∨ i = 1 ∨ i = 2 ∨ i = 3 ∨ i = 4 ∨ i = 5 ∨ i = 6 ∨ i = 7 ∨ i = 8 ∨ i = 9 ∨ i = 10 ∨ i = 11 ∨ i = 12 ∨ i = 13 ∨ i = 14 ∨ i = 15 ∨ i = 16 ∨ i = 17 ∨ i = 18 ∨ i = 19 ∨ i = 20 ∨ i = 21 ∨ i = 22 ∨ i = 23 ∨ i = 24 ∨ i = 25 ∨ i = 26 ∨ i = 27 ∨ i = 28 := by simp at hs; omega
    rcases hi with rfl | rfl | rfl | rfl | rfl | rfl | rfl | rfl | rfl | rfl | rfl | rfl | rfl | rfl | rfl | rfl | rfl | rfl | rfl | rfl | rfl | rfl | rfl | rfl | rfl | rfl | rfl | rfl | rfl
    · skip
      refine wpOpIn_of rfl rfl ?_
      clear hr hl0
      gi_wp2
      refine ⟨gs, g6, x6, ?_, q1, (by rw [getD_other hlt' (by decide), getD_other hlt' (by decide)]; exact q2), (by rw [getD_other hlt' (by decide)]; exact q3), (by rw [getD_other hlt' (by decide)]; exact q4)⟩
      simp (disch := decide) only [selOr_same hlt', selOr_other hlt']
    · skip
      refine wpOpIn_of rfl rfl ?_
      clear hr hl0
      gi_wp2
      refine ⟨gs, g6, x6, ?_, q1, (by rw [getD_other hlt' (by decide), getD_other hlt' (by decide)]; exact q2), (by rw [getD_other hlt' (by decide)]; exact q3), (by rw [getD_other hlt' (by decide)]; exact q4)⟩
      simp (disch := decide) only [selOr_same hlt', selOr_other hlt']
    · skip
      refine wpOpIn_of rfl rfl ?_
      clear hr hl0
      gi_wp2
      refine ⟨gs, g6, x6, ?_, q1, (by rw [getD_other hlt' (by decide), getD_other hlt' (by decide)]; exact q2), (by rw [getD_other hlt' (by decide)]; exact q3), (by rw [getD_other hlt' (by decide)]; exact q4)⟩
      simp (disch := decide) only [selOr_same hlt', selOr_other hlt']
    · have d2 : listed.getD 2 false = true := ready_after hr rfl { on := 2, ground := .data } (by simp) rfl
      simp only [selOr_on d2]
      refine wpOpIn_of rfl rfl ?_
      clear hr hl0
      gi_wp2
      refine ⟨gs, g6, x6, ?_, q1, (by rw [getD_other hlt' (by decide), getD_other hlt' (by decide)]; exact q2), (by rw [getD_other hlt' (by decide)]; exact q3), (by rw [getD_other hlt' (by decide)]; exact q4)⟩
      simp (disch := decide) only [selOr_same hlt', selOr_other hlt', selOr_on d2]
    · have d3 : listed.getD 3 false = true := ready_after hr rfl { on := 3, ground := .data } (by simp) rfl
      simp only [selOr_on d3]
      refine wpOpIn_of rfl rfl ?_
      clear hr hl0
      gi_wp2
      refine ⟨gs, g6, x6, ?_, q1, (by rw [getD_other hlt' (by decide), getD_other hlt' (by decide)]; exact q2), (by rw [getD_other hlt' (by decide)]; exact q3), (by rw [getD_other hlt' (by decide)]; exact q4)⟩
      simp (disch := decide) only [selOr_same hlt', selOr_other hlt', selOr_on d3]
    · have d4 : listed.getD 4 false = true := ready_after hr rfl { on := 4, ground := .data } (by simp) rfl
      simp only [selOr_on d4]
      refine wpOpIn_of rfl rfl ?_
      clear hr hl0
      gi_wp2
      refine ⟨gs, g6, x6, ?_, q1, (by rw [getD_other hlt' (by decide), getD_other hlt' (by decide)]; exact q2), (by rw [getD_other hlt' (by decide)]; exact q3), (by rw [getD_other hlt' (by decide)]; exact q4)⟩
      simp (disch := decide) only [selOr_same hlt', selOr_other hlt', selOr_on d4]
    · skip
      refine wpOpIn_of rfl rfl ?_
      clear hr hl0
      gi_wp2
      refine ⟨gs, g6, x6, ?_, q1, (by rw [getD_other hlt' (by decide), getD_other hlt' (by decide)]; exact q2), (by rw [getD_other hlt' (by decide)]; exact q3), (by rw [getD_other hlt' (by decide)]; exact q4)⟩
      simp (disch := decide) only [selOr_same hlt', selOr_other hlt']
    · have d6 : listed.getD 6 false = true := ready_after hr rfl { on := 6, ground := .data } (by simp) rfl
      simp only [selOr_on d6]
      refine wpOpIn_of rfl rfl ?_
      clear hr hl0
      gi_wp2
      refine ⟨gs, g6, x6, ?_, q1, (by rw [getD_other hlt' (by decide), getD_other hlt' (by decide)]; exact q2), (by rw [getD_other hlt' (by decide)]; exact q3), (by rw [getD_other hlt' (by decide)]; exact q4)⟩
      simp (disch := decide) only [selOr_same hlt', selOr_other hlt', selOr_on d6]
    · have d7 : listed.getD 7 false = true := ready_after hr rfl { on := 7, ground := .data } (by simp) rfl
      simp only [selOr_on d7]
      refine wpOpIn_of rfl rfl ?_
      clear hr hl0
      gi_wp2
      refine ⟨gs, g6, x6, ?_, q1, (by rw [getD_other hlt' (by decide), getD_other hlt' (by decide)]; exact q2), (by rw [getD_other hlt' (by decide)]; exact q3), (by rw [getD_other hlt' (by decide)]; exact q4)⟩
      simp (disch := decide) only [selOr_same hlt', selOr_other hlt', selOr_on d7]
    · have d8 : listed.getD 8 false = true := ready_after hr rfl { on := 8, ground := .data } (by simp) rfl
      simp only [selOr_on d8]
      refine wpOpIn_of rfl rfl ?_
      clear hr hl0
      gi_wp2
      refine ⟨gs, g6, x6, ?_, q1, (by rw [getD_other hlt' (by decide), getD_other hlt' (by decide)]; exact q2), (by rw [getD_other hlt' (by decide)]; exact q3), (by rw [getD_other hlt' (by decide)]; exact q4)⟩
      simp (disch := decide) only [selOr_same hlt', selOr_other hlt', selOr_on d8]
    · have d5 : listed.getD 5 false = true := ready_after hr rfl { on := 5, ground := .data } (by simp) rfl
      have d9 : listed.getD 9 false = true := ready_after hr rfl { on := 9, ground := .data } (by simp) rfl
      simp only [selOr_on d5, selOr_on d9]
      refine wpOpIn_of rfl rfl ?_
      clear hr hl0
      gi_wp2
      refine ⟨gs, g6, x6, ?_, q1, (by rw [getD_other hlt' (by decide), getD_other hlt' (by decide)]; exact q2), (by rw [getD_other hlt' (by decide)]; exact q3), (by rw [getD_other hlt' (by decide)]; exact q4)⟩
      simp (disch := decide) only [selOr_same hlt', selOr_other hlt', selOr_on d5, selOr_on d9]
    · skip
      refine wpOpIn_of rfl rfl ?_
      clear hr hl0
      gi_wp2
      refine ⟨gs, g6, x6, ?_, q1, (by rw [getD_other hlt' (by decide), getD_other hlt' (by decide)]; exact q2), (by rw [getD_other hlt' (by decide)]; exact q3), (by rw [getD_other hlt' (by decide)]; exact q4)⟩
      simp (disch := decide) only [selOr_same hlt', selOr_other hlt']
    · have d11 : listed.getD 11 false = true := ready_after hr rfl { on := 11, ground := .data } (by simp) rfl
      simp only [selOr_on d11]
      refine wpOpIn_of rfl rfl ?_
      clear hr hl0
      gi_wp2
      refine ⟨gs, g6, x6, ?_, q1, (by rw [getD_other hlt' (by decide), getD_other hlt' (by decide)]; exact q2), (by rw [getD_other hlt' (by decide)]; exact q3), (by rw [getD_other hlt' (by decide)]; exact q4)⟩
      simp (disch := decide) only [selOr_same hlt', selOr_other hlt', selOr_on d11]
    · have d12 : listed.getD 12 false = true := ready_after hr rfl { on := 12, ground := .data } (by simp) rfl
      simp only [selOr_on d12]
      refine wpOpIn_of rfl rfl ?_
      clear hr hl0
      gi_wp2
      refine ⟨gs, g6, x6, ?_, q1, (by rw [getD_other hlt' (by decide), getD_other hlt' (by decide)]; exact q2), (by rw [getD_other hlt' (by decide)]; exact q3), (by rw [getD_other hlt' (by decide)]; exact q4)⟩
      simp (disch := decide) only [selOr_same hlt', selOr_other hlt', selOr_on d12]
    · have d13 : listed.getD 13 false = true := ready_after hr rfl { on := 13, ground := .data } (by simp) rfl
      simp only [selOr_on d13]
      refine wpOpIn_of rfl rfl ?_
      clear hr hl0
      gi_wp2
      refine ⟨gs, g6, x6, ?_, q1, (by rw [getD_other hlt' (by decide), getD_other hlt' (by decide)]; exact q2), (by rw [getD_other hlt' (by decide)]; exact q3), (by rw [getD_other hlt' (by decide)]; exact q4)⟩
      simp (disch := decide) only [selOr_same hlt', selOr_other hlt', selOr_on d13]
    · skip
      refine wpOpIn_of rfl rfl ?_
      clear hr hl0
      gi_wp2
      refine ⟨gs, g6, x6, ?_, q1, (by rw [getD_other hlt' (by decide), getD_other hlt' (by decide)]; exact q2), (by rw [getD_other hlt' (by decide)]; exact q3), (by rw [getD_other hlt' (by decide)]; exact q4)⟩
      simp (disch := decide) only [selOr_same hlt', selOr_other hlt']
    · have d15 : listed.getD 15 false = true := ready_after hr rfl { on := 15, ground := .data } (by simp) rfl
      simp only [selOr_on d15]
      refine wpOpIn_of rfl rfl ?_
      clear hr hl0
      gi_wp2
      refine ⟨gs, g6, x6, ?_, q1, (by rw [getD_other hlt' (by decide), getD_other hlt' (by decide)]; exact q2), (by rw [getD_other hlt' (by decide)]; exact q3), (by rw [getD_other hlt' (by decide)]; exact q4)⟩
      simp (disch := decide) only [selOr_same hlt', selOr_other hlt', selOr_on d15]
    · have d16 : listed.getD 16 false = true := ready_after hr rfl { on := 16, ground := .data } (by simp) rfl
      simp only [selOr_on d16]
      refine wpOpIn_of rfl rfl ?_
      clear hr hl0
      gi_wp2
      refine ⟨gs, g6, x6, ?_, q1, (by rw [getD_other hlt' (by decide), getD_other hlt' (by decide)]; exact q2), (by rw [getD_other hlt' (by decide)]; exact q3), (by rw [getD_other hlt' (by decide)]; exact q4)⟩
      simp (disch := decide) only [selOr_same hlt', selOr_other hlt', selOr_on d16]
    · have d17 : listed.getD 17 false = true := ready_after hr rfl { on := 17, ground := .data } (by simp) rfl
      simp only [selOr_on d17]
      refine wpOpIn_of rfl rfl ?_
      clear hr hl0
      gi_wp2
      refine ⟨gs, g6, x6, ?_, q1, (by rw [getD_other hlt' (by decide), getD_other hlt' (by decide)]; exact q2), (by rw [getD_other hlt' (by decide)]; exact q3), (by rw [getD_other hlt' (by decide)]; exact q4)⟩
      simp (disch := decide) only [selOr_same hlt', selOr_other hlt', selOr_on d17]
    · have d14 : listed.getD 14 false = true := ready_after hr rfl { on := 14, ground := .data } (by simp) rfl
      have d18 : listed.getD 18 false = true := ready_after hr rfl { on := 18, ground := .data } (by simp) rfl
      simp only [selOr_on d14, selOr_on d18]
      refine wpOpIn_of rfl rfl ?_
      clear hr hl0
      gi_wp2
      refine ⟨gs, g6, x6, ?_, q1, (by rw [getD_other hlt' (by decide), getD_other hlt' (by decide)]; exact q2), (by rw [getD_other hlt' (by decide)]; exact q3), (by rw [getD_other hlt' (by decide)]; exact q4)⟩
      simp (disch := decide) only [selOr_same hlt', selOr_other hlt', selOr_on d14, selOr_on d18]
    · have d10 : listed.getD 10 false = true := ready_after hr rfl { on := 10, ground := .data } (by simp) rfl
      have d19 : listed.getD 19 false = true := ready_after hr rfl { on := 19, ground := .data } (by simp) rfl
      simp only [selOr_on d10, selOr_on d19]
      refine wpOpIn_of rfl rfl ?_
      clear hr hl0
      gi_wp2
      refine ⟨gs, g6, x6, ?_, q1, (by rw [getD_other hlt' (by decide), getD_other hlt' (by decide)]; exact q2), (by rw [getD_other hlt' (by decide)]; exact q3), (by rw [getD_other hlt' (by decide)]; exact q4)⟩
      simp (disch := decide) only [selOr_same hlt', selOr_other hlt', selOr_on d10, selOr_on d19]
    · have d20 : listed.getD 20 false = true := ready_after hr rfl { on := 20, ground := .data } (by simp) rfl
      simp only [selOr_on d20]
      refine wpOpIn_of rfl rfl ?_
      gi_wp2
      have hq : Below V'.heap.size V' (V'.alloc (.cells #[.int .i64 dx, .int .i64 dy, .int .i64 0] 75 (0, 0))) := (Below.refl _ _).alloc (Nat.le_refl _) _
      refine ⟨V'.heap.size, g6, x6, ?_, q1.trans (hq.mono q1.size), fun _ _ => blk_new _ _, fun h => ?_, (by rw [getD_other hlt' (by decide)]; exact q4)⟩
      · have n22 : listed.getD 22 false = false := by
          cases z : listed.getD 22 false
          · rfl
          · have := hc 22 _ rfl z { on := 21, ground := .data } (by simp) rfl
            rw [hl0] at this; cases this
        simp (disch := decide) only [selOr_same hlt', selOr_other hlt', selOr_on d20]
      · rw [getD_other hlt' (by decide)] at h; exact ⟨(q3 h).1, keep_below hq (blk_lt (q3 h).2) (q3 h).2⟩
    · have d0 : listed.getD 0 false = true := ready_after hr rfl { on := 0, ground := .data } (by simp) rfl
      have d1 : listed.getD 1 false = true := ready_after hr rfl { on := 1, ground := .data } (by simp) rfl
      have d21 : listed.getD 21 false = true := ready_after hr rfl { on := 21, ground := .data } (by simp) rfl
      simp only [selOr_on d0, selOr_on d1, selOr_on d21]
      refine wpOpIn_of rfl rfl ?_
      gi_wp2
      refine ⟨trivial, rfl, (HTRY.out gs V' hwV (q2 d21 hl0)).mono ?_⟩
      rintro e V5 ⟨rfl, hb5⟩
      gi_wp2
      refine ⟨gs, g6, x6, ?_, q1.trans (hb5.mono q1.size), fun _ h => (by rw [getD_same hlt'] at h; cases h), fun h => ?_, (by rw [getD_other hlt' (by decide)]; exact q4)⟩
      · simp (disch := decide) only [selOr_same hlt', selOr_other hlt', selOr_on d0, selOr_on d1, selOr_on d21]
      · rw [getD_other hlt' (by decide)] at h; exact ⟨(q3 h).1, keep_below hb5 (blk_lt (q3 h).2) (q3 h).2⟩
    · have d22 : listed.getD 22 false = true := ready_after hr rfl { on := 22, ground := .data } (by simp) rfl
      simp only [selOr_on d22]
      refine wpOpIn_of rfl rfl ?_
      clear hr hl0
      gi_wp2
      refine ⟨gs, g6, x6, ?_, q1, (by rw [getD_other hlt' (by decide), getD_other hlt' (by decide)]; exact q2), (by rw [getD_other hlt' (by decide)]; exact q3), (by rw [getD_other hlt' (by decide)]; exact q4)⟩
      simp (disch := decide) only [selOr_same hlt', selOr_other hlt', selOr_on d22]
    · have d23 : listed.getD 23 false = true := ready_after hr rfl { on := 23, ground := .data } (by simp) rfl
      simp only [selOr_on d23]
      refine wpOpIn_of rfl rfl ?_
      clear hr hl0
      gi_wp2
      refine ⟨gs, g6, x6, ?_, q1, (by rw [getD_other hlt' (by decide), getD_other hlt' (by decide)]; exact q2), (by rw [getD_other hlt' (by decide)]; exact q3), (by rw [getD_other hlt' (by decide)]; exact q4)⟩
      simp (disch := decide) only [selOr_same hlt', selOr_other hlt', selOr_on d23]
    · have d23 : listed.getD 23 false = true := ready_after hr rfl { on := 23, ground := .data } (by simp) rfl
      simp only [selOr_on d23]
      refine wpOpIn_of rfl rfl ?_
      clear hr hl0
      gi_wp2
      refine ⟨gs, g6, x6, ?_, q1, (by rw [getD_other hlt' (by decide), getD_other hlt' (by decide)]; exact q2), (by rw [getD_other hlt' (by decide)]; exact q3), (by rw [getD_other hlt' (by decide)]; exact q4)⟩
      simp (disch := decide) only [selOr_same hlt', selOr_other hlt', selOr_on d23]
    · skip
      refine wpOpIn_of rfl rfl ?_
      gi_wp2
      have hq : Below V'.heap.size V' (V'.alloc (.cells (lineC z75) 75 (0, 0))) := (Below.refl _ _).alloc (Nat.le_refl _) _
      have n27 : listed.getD 27 false = false := by
        cases z : listed.getD 27 false
        · rfl
        · have := hc 27 _ rfl z { on := 26, ground := .data } (by simp) rfl
          rw [hl0] at this; cases this
      refine ⟨gs, V'.heap.size, z75, ?_, q1.trans (hq.mono q1.size), fun h21 h22 => ?_, fun _ => ⟨q1.size, blk_new _ _⟩, fun h => (by rw [getD_other hlt' (by decide), n27] at h; cases h)⟩
      · simp (disch := decide) only [selOr_same hlt', selOr_other hlt']
      · rw [getD_other hlt' (by decide)] at h21 h22; exact keep_below hq (blk_lt (q2 h21 h22)) (q2 h21 h22)
    · have d26 : listed.getD 26 false = true := ready_after hr rfl { on := 26, ground := .data } (by simp) rfl
      have d24 : listed.getD 24 false = true := ready_after hr rfl { on := 24, ground := .data } (by simp) rfl
      simp only [selOr_on d26, selOr_on d24]
      refine wpOpIn_of rfl rfl ?_
      have d22 : listed.getD 22 false = true := hc 23 _ rfl (hc 24 _ rfl d24 { on := 23, ground := .data } (by simp) rfl) { on := 22, ground := .data } (by simp) rfl
      have k6 := q3 d26
      have hp1 := put3_blk (⟨r1, r2, r3⟩ : S75) k6.2
      have hp2 := put3_below (V := V') (x := (⟨r1, r2, r3⟩ : S75)) k6.1
      unfold put3 at hp1 hp2
      dsimp only at hp1 hp2
      obtain ⟨⟨o0, o1, o2⟩, f0, f1, f2⟩ := line_cells k6.2
      clear hr hl0
      gi_wp2
      refine ⟨gs, g6, ⟨r1, r2, r3⟩, ?_, q1.trans hp2, fun _ h => (by rw [getD_other hlt' (by decide), d22] at h; cases h), fun _ => ⟨k6.1, hp1⟩, fun _ => rfl⟩
      simp (disch := decide) only [selOr_same hlt', selOr_other hlt', selOr_on d26, selOr_on d24]
    · have d25 : listed.getD 25 false = true := ready_after hr rfl { on := 25, ground := .data } (by simp) rfl
      simp only [selOr_on d25]
      refine wpOpIn_of rfl rfl ?_
      clear hr hl0
      gi_wp2
      refine ⟨gs, g6, x6, ?_, q1, (by rw [getD_other hlt' (by decide), getD_other hlt' (by decide)]; exact q2), (by rw [getD_other hlt' (by decide)]; exact q3), (by rw [getD_other hlt' (by decide)]; exact q4)⟩
      simp (disch := decide) only [selOr_same hlt', selOr_other hlt', selOr_on d25]
  case finq =>
    rintro listed a V' hs ⟨gs, g6, x6, rfl, q1, q2, q3, q4⟩ hr
    have all : ∀ j, j < 29 → listed.getD j false = true := fun j hj => by
      cases q : listed.getD j false
      · exact absurd hr (ready_ne hs (by kernel_rfl) j (by simpa using hj) q)
      · rfl
    simp only [selOr_on (all 0 (by decide)), selOr_on (all 1 (by decide)), selOr_on (all 2 (by decide)), selOr_on (all 3 (by decide)), selOr_on (all 4 (by decide)), selOr_on (all 5 (by decide)), selOr_on (all 6 (by decide)), selOr_on (all 7 (by decide)), selOr_on (all 8 (by decide)), selOr_on (all 9 (by decide)), selOr_on (all 10 (by decide)), selOr_on (all 11 (by decide)), selOr_on (all 12 (by decide)), selOr_on (all 13 (by decide)), selOr_on (all 14 (by decide)), selOr_on (all 15 (by decide)), selOr_on (all 16 (by decide)), selOr_on (all 17 (by decide)), selOr_on (all 18 (by decide)), selOr_on (all 19 (by decide)), selOr_on (all 20 (by decide)), selOr_on (all 21 (by decide)), selOr_on (all 22 (by decide)), selOr_on (all 23 (by decide)), selOr_on (all 24 (by decide)), selOr_on (all 25 (by decide)), selOr_on (all 26 (by decide)), selOr_on (all 28 (by decide))]
    clear hr hs
    have k6 := q3 (all 26 (by decide))
    obtain rfl := q4 (all 27 (by decide))
    clear all q2 q3 q4 ca0 cb0 xa0 xa1 xb0 xb1 w1 w2 hW1 g1 g2 g3 g4
    have J2 := J1A.out.step q1 (Nat.le_refl _)
    obtain ⟨o, ho⟩ : ∃ o, tryO l0 l1 [⟨dx, dy, 0⟩] = o := ⟨_, rfl⟩
    have hr := HR.out
    rw [ho] at hr
    cases o with
    | some x =>
      simp only [lineR, Prod.mk.injEq] at hr
      obtain ⟨rfl, rfl, rfl, rfl⟩ := hr
      have HRES : Aside0 (lineR (tryO l0 l1 (partL l0 l1)) = (x.f0, x.f1, x.f2, true)) := ⟨by
        rw [HPL.out, show (⟨dx, dy, 0⟩ : S75) :: (dirs l0 ++ dirs l1) = [⟨dx, dy, 0⟩] ++ (dirs l0 ++ dirs l1) from rfl, tryO_append, ho]; rfl⟩
      obtain ⟨⟨y0, y1, y2⟩, _⟩ := line_cells k6.2
      obtain ⟨⟨o0, o1, o2⟩, f0, f1, f2⟩ := line_cells J2.hl
      have fb := blk_frozen J2.hf 0
      have cb : V'.cell? ⟨B + 1 + 1 + 1, 0, none⟩ = some (.bool false) := (blk_cell J2.hf 0).trans rfl
      have HP := Aside0.mk (part_store x.f0 x.f1 x.f2 true J2)
      clear ho J2 k6 q1
      gi_wp2
      have HE := HP.out.1
      refine leaves_coll (B := B + 4) _ _ _ HE.coll fun W' hW' => ?_
      have hEs := HE.size
      refine ⟨_, results_lb rfl _ _ (B + 1 + 1) (lineC ⟨x.f0, x.f1, x.f2⟩) (B + 1 + 1 + 1) (.bool true) rfl rfl ((hW'.block _ (by omega)).trans HE.hl) ((blk_cell ((hW'.block _ (by omega)).trans HE.hf) 0).trans rfl) rfl, ?_⟩
      exact ⟨by rw [HRES.out]; rfl, HBe.out ▸ HE.below.trans (hW'.mono (by omega))⟩
    | none =>
      simp only [lineR, Prod.mk.injEq] at hr
      obtain ⟨rfl, rfl, rfl, rfl⟩ := hr
      have HO := Aside0.mk ho
      have ca0 : V'.cell? ⟨B, 0, none⟩ = some (.slice (some aa) na ca) := (blk_cell J2.ha 0).trans rfl
      have cb0 : V'.cell? ⟨B + 1, 0, none⟩ = some (.slice (some ab) nb cb) := (blk_cell J2.hb 0).trans rfl
      have HJ := Aside0.mk J2
      clear ho k6 J2 q1
      gi_wp2
      refine wpIn_loop (fun a W => ∃ (k : Nat) (ds : List Deferred) (u9 u48 u49 u50 u51 u89 : Value), a = { tmps := (.slice (some aa) na ca :: .slice (some ab) nb cb :: .pointer (some ⟨B, 0, none⟩) :: .pointer (some ⟨B + 1, 0, none⟩) :: .pointer (some ⟨B + 1 + 1, 0, none⟩) :: .pointer (some ⟨B + 1 + 1 + 1, 0, none⟩) :: .pointer (some ⟨g6, 0, none⟩) :: .bool false :: undef :: u9 :: undef :: undef :: undef :: undef :: undef :: undef :: .tuple #[.agg #[.int .i64 0, .int .i64 0, .int .i64 0], .bool false] :: .slice (some aa) na ca :: .slice (some ab) nb cb :: .slice (some ab) nb cb :: .pointer (some ab) :: .pointer (some ab) :: .int .i64 b0.f0 :: .slice (some aa) na ca :: .pointer (some aa) :: .pointer (some aa) :: .int .i64 a0.f0 :: .int .i64 dx :: .slice (some ab) nb cb :: .pointer (some ab) :: .pointer (some ⟨ab.block, ab.off + 1, none⟩) :: .int .i64 b0.f1 :: .slice (some aa) na ca :: .pointer (some aa) :: .pointer (some ⟨aa.block, aa.off + 1, none⟩) :: .int .i64 a0.f1 :: .int .i64 dy :: .agg #[.int .i64 dx, .int .i64 dy, .int .i64 0] :: .slice (some ⟨gs, 0, none⟩) 1 1 :: .tuple #[.agg #[.int .i64 0, .int .i64 0, .int .i64 0], .bool false] :: .agg #[.int .i64 0, .int .i64 0, .int .i64 0] :: .bool false :: .bool false :: undef :: .slice (some aa) na ca :: .slice (some ab) nb cb :: .agg #[.slice (some aa) na ca, .slice (some ab) nb cb] :: .int .i64 (k : Int) :: u48 :: u49 :: u50 :: u51 :: undef :: undef :: undef :: undef :: undef :: undef :: undef :: undef :: undef :: undef :: undef :: undef :: undef :: undef :: undef :: undef :: undef :: undef :: undef :: undef :: undef :: undef :: undef :: undef :: undef :: undef :: undef :: undef :: undef :: undef :: undef :: undef :: undef :: undef :: undef :: undef :: undef :: u89 :: undef :: []).toArray, defers := ds } ∧ k ≤ 2 ∧ ((1 ≤ k → tryO l0 l1 (dirs l0) = none) ∧ (2 ≤ k → tryO l0 l1 (dirs l1) = none)) ∧ PInv B w (.slice (some aa) na ca) (.slice (some ab) nb cb) W.heap.size ds W)
        (fun a _ => 2 - (intOf (a.tmps.getD 47 undef)).toNat) ⟨0, [], _, _, _, _, _, _, rfl, Nat.zero_le _, ⟨fun h => absurd h (by omega), fun h => absurd h (by omega)⟩, HJ.out.up⟩ ?_
      intro _ W hI
      obtain ⟨k, hI⟩ := hI
      obtain ⟨ds, hI⟩ := hI
      obtain ⟨u9, hI⟩ := hI
      obtain ⟨u48, hI⟩ := hI
      obtain ⟨u49, hI⟩ := hI
      obtain ⟨u50, hI⟩ := hI
      obtain ⟨u51, hI⟩ := hI
      obtain ⟨u89, hI⟩ := hI
      obtain ⟨ha, hk, hnone, I⟩ := hI
      subst ha
      dsimp only
      by_cases hlt : k < 2
      · obtain ⟨h, ah, nh, chh, hcase⟩ : ∃ (h : List S23) (ah : Addr) (nh chh : Nat), (k = 0 ∧ h = l0 ∧ ah = aa ∧ nh = na ∧ chh = ca) ∨ (k = 1 ∧ h = l1 ∧ ah = ab ∧ nh = nb ∧ chh = cb) := by
          rcases (show k = 0 ∨ k = 1 by omega) with e | e
          · exact ⟨l0, aa, na, ca, .inl ⟨e, rfl, rfl, rfl, rfl⟩⟩
          · exact ⟨l1, ab, nb, cb, .inr ⟨e, rfl, rfl, rfl, rfl⟩⟩
        have hidx : ∀ w, (Instr.index 130 (.agg #[.slice (some aa) na ca, .slice (some ab) nb cb]) (.int .i64 (k : Int))).run Try.prog w = .ok (.slice (some ah) nh chh) w := by
          rcases hcase with ⟨rfl, rfl, rfl, rfl, rfl⟩ | ⟨rfl, rfl, rfl, rfl, rfl⟩
          · intro w; rfl
          · intro w; rfl
        have hrh : Kd.C k23 w (some ah) h.length h := by
          rcases hcase with ⟨_, rfl, rfl, _, _⟩ | ⟨_, rfl, rfl, _, _⟩
          · exact HRA.out
          · exact HRB.out
        have hnh : h.length = nh := by
          rcases hcase with ⟨_, rfl, _, rfl, _⟩ | ⟨_, rfl, _, rfl, _⟩
          · exact HNA.out
          · exact HNB.out
        have HCS := Aside0.mk hcase
        have HN := Aside0.mk hnone
        have HRH := Aside0.mk hrh
        have HNH := Aside0.mk hnh
        have HIV := Aside0.mk I
        clear hcase hnone hrh hnh I
        gi_wp2
        refine ⟨trivial, rfl, (sides_make _ _ _ _).mono ?_⟩
        rintro e W2 ⟨rfl, hW2⟩
        have hb2 : Below W.heap.size W W2 := by rw [hW2]; exact (Below.refl _ _).alloc (Nat.le_refl _) _
        have p1 : W2.heap[W.heap.size]? = some (.cells #[.slice (some ah) nh chh] 53 (0, 0)) := by rw [hW2]; exact blk_new _ _
        have s2 : W2.heap.size = W.heap.size + 1 := by rw [hW2]; simp
        have I2 := HIV.out.step hb2 (Nat.le_refl _)
        have I3 : PInv B w (.slice (some aa) na ca) (.slice (some ab) nb cb) W2.heap.size ds W2 := ⟨I2.below, ⟨by have := I2.size; omega, Nat.le_refl _⟩, I2.ha, I2.hb, I2.hl, I2.hf, I2.coll.mono (by omega)⟩
        have hseq := sides_seq W.heap.size chh (some ah) h W2 (by rw [HNH.out]; exact p1) (Kd.C_below HRH.out (HBe.out ▸ I2.below))
        have HSQ := Aside0.mk hseq
        have HI3 := Aside0.mk I3
        have HS2 := Aside0.mk s2
        clear hb2 p1 I2 I3 hseq hW2 s2
        gi_wp2
        refine wpIn_rangeFunc_S (gf := 120) (lb := #[.pointer (some ⟨W.heap.size, 0, none⟩)]) rfl (enters_of Try.func120 (by kernel_rfl) rfl) (encs := ptV2) (L := sideL h) (w0 := W2) HSQ.out (Below.refl _ _) (fun _ => rfl)
          (fun pre V => PInv B w (.slice (some aa) na ca) (.slice (some ab) nb cb) W2.heap.size ds V ∧ tryO l0 l1 (pre.flatMap dir4) = none)
          (fun pre V => ∃ x, tryO l0 l1 (dirs h) = some x ∧ PEnd B w W2.heap.size ds x true V)
          ?hI ?hIx ?hIp ?hIxp ⟨HI3.out, rfl⟩
          (fun x a' V => ∃ Bp Bq, W2.heap.size + 2 ≤ Bp ∧ W2.heap.size + 2 ≤ Bq ∧ V.heap[Bp]? = some (.cells #[.int .i64 x.1.f0, .int .i64 x.1.f1] 23 (0, 0)) ∧ V.heap[Bq]? = some (.cells #[.int .i64 x.2.f0, .int .i64 x.2.f1] 23 (0, 0)) ∧ a' = { tmps := (.slice (some aa) na ca :: .slice (some ab) nb cb :: .pointer (some ⟨B, 0, none⟩) :: .pointer (some ⟨B + 1, 0, none⟩) :: .pointer (some ⟨B + 1 + 1, 0, none⟩) :: .pointer (some ⟨B + 1 + 1 + 1, 0, none⟩) :: .pointer (some ⟨g6, 0, none⟩) :: .bool false :: undef :: .slice (some ah) nh chh :: .pointer (some ⟨Bp, 0, none⟩) :: .pointer (some ⟨Bq, 0, none⟩) :: undef :: undef :: undef :: undef :: .tuple #[.agg #[.int .i64 0, .int .i64 0, .int .i64 0], .bool false] :: .slice (some aa) na ca :: .slice (some ab) nb cb :: .slice (some ab) nb cb :: .pointer (some ab) :: .pointer (some ab) :: .int .i64 b0.f0 :: .slice (some aa) na ca :: .pointer (some aa) :: .pointer (some aa) :: .int .i64 a0.f0 :: .int .i64 dx :: .slice (some ab) nb cb :: .pointer (some ab) :: .pointer (some ⟨ab.block, ab.off + 1, none⟩) :: .int .i64 b0.f1 :: .slice (some aa) na ca :: .pointer (some aa) :: .pointer (some ⟨aa.block, aa.off + 1, none⟩) :: .int .i64 a0.f1 :: .int .i64 dy :: .agg #[.int .i64 dx, .int .i64 dy, .int .i64 0] :: .slice (some ⟨gs, 0, none⟩) 1 1 :: .tuple #[.agg #[.int .i64 0, .int .i64 0, .int .i64 0], .bool false] :: .agg #[.int .i64 0, .int .i64 0, .int .i64 0] :: .bool false :: .bool false :: undef :: .slice (some aa) na ca :: .slice (some ab) nb cb :: .agg #[.slice (some aa) na ca, .slice (some ab) nb cb] :: .int .i64 (k : Int) :: .bool true :: .slice (some ah) nh chh :: .slice (some ah) nh chh :: .func (.func 120) #[] #[.pointer (some ⟨W.heap.size, 0, none⟩)] :: .agg #[.int .i64 x.1.f0, .int .i64 x.1.f1] :: .agg #[.int .i64 x.2.f0, .int .i64 x.2.f1] :: undef :: undef :: undef :: undef :: undef :: undef :: undef :: undef :: undef :: undef :: undef :: undef :: undef :: undef :: undef :: undef :: undef :: undef :: undef :: undef :: undef :: undef :: undef :: undef :: undef :: undef :: undef :: undef :: undef :: undef :: undef :: undef :: undef :: undef :: undef :: u89 :: undef :: []).toArray, defers := [] })
          ?hAx ?assign ?body ?done ?stop
        case hI =>
          rintro s A V ⟨g1, g2⟩ hb
          exact ⟨g1.step hb g1.size.2, g2⟩
        case hIx =>
          rintro s A V ⟨x, g1, g2⟩ hb
          exact ⟨x, g1, g2.step hb g2.size.2⟩
        case hIp =>
          rintro s V o r ⟨g1, g2⟩ hr
          exact ⟨g1.step (below_putObj (B := W2.heap.size) V o (by omega)) (Nat.le_refl _), g2⟩
        case hIxp =>
          rintro s V o r ⟨x, g1, g2⟩ hr
          exact ⟨x, g1, g2.step (below_putObj (B := W2.heap.size) V o (by omega)) (Nat.le_refl _)⟩
        case hAx =>
          rintro x a' V r o ⟨Bp, Bq, h1, h2, h3, h4, rfl⟩ hr
          exact ⟨Bp, Bq, h1, h2, (World.putObj_heap_other (by omega)).trans h3, (World.putObj_heap_other (by omega)).trans h4, rfl⟩
        case assign =>
          rintro l' pre x V K ⟨g1, g2⟩ hpre hz hK
          dsimp only [ptV2]
          gi_wp2
          refine hK _ _ (((Below.refl _ _).alloc (Nat.le_refl _) _).alloc (by simp) _) ⟨V.heap.size, V.heap.size + 1, hz, by omega, blk_alloc (blk_new _ _) _, ?_, rfl⟩
          have := blk_new (V.alloc (.cells #[.int .i64 x.1.f0, .int .i64 x.1.f1] 23 (0, 0))) (.cells #[.int .i64 x.2.f0, .int .i64 x.2.f1] 23 (0, 0))
          rwa [World.size_alloc] at this
        case body =>
          rintro l' pre ⟨p, q⟩ a' V ⟨g1, g2⟩ hpre hz ⟨Bp, Bq, hBp, hBq, hp, hq, rfl⟩
          dsimp only at hp hq ⊢
          obtain ⟨x, hx⟩ : ∃ d, wrap64 (q.f0 - p.f0) = d := ⟨_, rfl⟩
          obtain ⟨y, hy⟩ : ∃ d, wrap64 (q.f1 - p.f1) = d := ⟨_, rfl⟩
          obtain ⟨nx, hnx⟩ : ∃ d, wrap64 (-x) = d := ⟨_, rfl⟩
          obtain ⟨ny, hny⟩ : ∃ d, wrap64 (-y) = d := ⟨_, rfl⟩
          have HD4 : Aside0 (dir4 (p, q) = [⟨y, nx, 0⟩, ⟨ny, x, 0⟩, ⟨x, y, 0⟩, ⟨nx, ny, 0⟩]) := ⟨by unfold dir4; simp only [hx, hy, hnx, hny]⟩
          have w1 : IntKind.i64.wrap (q.f0 - p.f0) = x := by rw [i64_w]; exact hx
          have w2 : IntKind.i64.wrap (q.f1 - p.f1) = y := by rw [i64_w]; exact hy
          have w3 : IntKind.i64.wrap (-x) = nx := by rw [i64_w]; exact hnx
          have w4 : IntKind.i64.wrap (-y) = ny := by rw [i64_w]; exact hny
          have p0 : V.cell? ⟨Bp, 0, none⟩ = some (.int .i64 p.f0) := (blk_cell hp 0).trans rfl
          have p1 : V.cell? ⟨Bp, 1, none⟩ = some (.int .i64 p.f1) := (blk_cell hp 1).trans rfl
          have y0 : V.cell? ⟨Bq, 0, none⟩ = some (.int .i64 q.f0) := (blk_cell hq 0).trans rfl
          have y1 : V.cell? ⟨Bq, 1, none⟩ = some (.int .i64 q.f1) := (blk_cell hq 1).trans rfl
          have KP := Aside0.mk (blk_lt hp)
          have KQ := Aside0.mk (blk_lt hq)
          have G1 := Aside0.mk g1
          have G2 := Aside0.mk g2
          have HPR := Aside0.mk hpre
          clear hp hq g1 g2 hpre hx hy hidx
          gi_wp2
          refine wpIn_region_any (by kernel_rfl) ?_
          change wpAnyIn _ _ _ _ _ _ _ _ _ (World.drew V)
          refine wpAnyIn_inv (fun listed a V' => a = { tmps := (.slice (some aa) na ca :: .slice (some ab) nb cb :: .pointer (some ⟨B, 0, none⟩) :: .pointer (some ⟨B + 1, 0, none⟩) :: .pointer (some ⟨B + 1 + 1, 0, none⟩) :: .pointer (some ⟨B + 1 + 1 + 1, 0, none⟩) :: .pointer (some ⟨g6, 0, none⟩) :: .bool false :: undef :: .slice (some ah) nh chh :: .pointer (some ⟨Bp, 0, none⟩) :: .pointer (some ⟨Bq, 0, none⟩) :: selOr listed 10 (.int .i64 x) undef :: selOr listed 11 (.int .i64 y) undef :: undef :: undef :: .tuple #[.agg #[.int .i64 0, .int .i64 0, .int .i64 0], .bool false] :: .slice (some aa) na ca :: .slice (some ab) nb cb :: .slice (some ab) nb cb :: .pointer (some ab) :: .pointer (some ab) :: .int .i64 b0.f0 :: .slice (some aa) na ca :: .pointer (some aa) :: .pointer (some aa) :: .int .i64 a0.f0 :: .int .i64 dx :: .slice (some ab) nb cb :: .pointer (some ab) :: .pointer (some ⟨ab.block, ab.off + 1, none⟩) :: .int .i64 b0.f1 :: .slice (some aa) na ca :: .pointer (some aa) :: .pointer (some ⟨aa.block, aa.off + 1, none⟩) :: .int .i64 a0.f1 :: .int .i64 dy :: .agg #[.int .i64 dx, .int .i64 dy, .int .i64 0] :: .slice (some ⟨gs, 0, none⟩) 1 1 :: .tuple #[.agg #[.int .i64 0, .int .i64 0, .int .i64 0], .bool false] :: .agg #[.int .i64 0, .int .i64 0, .int .i64 0] :: .bool false :: .bool false :: undef :: .slice (some aa) na ca :: .slice (some ab) nb cb :: .agg #[.slice (some aa) na ca, .slice (some ab) nb cb] :: .int .i64 (k : Int) :: .bool true :: .slice (some ah) nh chh :: .slice (some ah) nh chh :: .func (.func 120) #[] #[.pointer (some ⟨W.heap.size, 0, none⟩)] :: .agg #[.int .i64 p.f0, .int .i64 p.f1] :: .agg #[.int .i64 q.f0, .int .i64 q.f1] :: selOr listed 0 (.pointer (some ⟨Bq, 0, none⟩)) undef :: selOr listed 1 (.int .i64 q.f0) undef :: selOr listed 2 (.pointer (some ⟨Bp, 0, none⟩)) undef :: selOr listed 3 (.int .i64 p.f0) undef :: selOr listed 4 (.int .i64 x) undef :: selOr listed 5 (.pointer (some ⟨Bq, 1, none⟩)) undef :: selOr listed 6 (.int .i64 q.f1) undef :: selOr listed 7 (.pointer (some ⟨Bp, 1, none⟩)) undef :: selOr listed 8 (.int .i64 p.f1) undef :: selOr listed 9 (.int .i64 y) undef :: undef :: undef :: undef :: undef :: undef :: undef :: undef :: undef :: undef :: undef :: undef :: undef :: undef :: undef :: undef :: undef :: undef :: undef :: undef :: undef :: undef :: undef :: undef :: undef :: undef :: u89 :: undef :: []).toArray, defers := [] } ∧ Below V.heap.size V V') 19 ?stepq ?stopq ?finq 12 _ _ _ (by simp) (closed_none _) ⟨by simp [selOr], (Below.refl _ _).drew⟩ (by simp)
          case stopq =>
            intro listed a V' fuel hs hc hi hr
            have := (ready_lt hr).1
            simp at hs
            omega
          case stepq =>
            rintro listed a V' i hs hc ⟨rfl, q1⟩ hr hne K hK
            obtain ⟨hlt', hl0⟩ := ready_lt hr
            have cp0 := (q1.cell (p := ⟨Bp, 0, none⟩) KP.out).trans p0
            have cp1 := (q1.cell (p := ⟨Bp, 1, none⟩) KP.out).trans p1
            have cy0 := (q1.cell (p := ⟨Bq, 0, none⟩) KQ.out).trans y0
            have cy1 := (q1.cell (p := ⟨Bq, 1, none⟩) KQ.out).trans y1
            clear p0 p1 y0 y1
            have hi : i = 0 ∨ i = 1 ∨ i = 2 ∨ i = 3 ∨ i = 4 ∨ i = 5 ∨ i = 6 ∨ i = 7 ∨ i = 8 ∨ i = 9 ∨ i = 10 ∨ i = 11 := by simp at hs; omega
            rcases hi with rfl | rfl | rfl | rfl | rfl | rfl | rfl | rfl | rfl | rfl | rfl | rfl
            · skip
              refine wpOpIn_of rfl rfl ?_
              clear hr hl0
              gi_wp2
              refine ⟨?_, q1⟩
              simp (disch := decide) only [selOr_same hlt', selOr_other hlt']
            · have d0 : listed.getD 0 false = true := ready_after hr rfl { on := 0, ground := .data } (by simp) rfl
              simp only [selOr_on d0]
              refine wpOpIn_of rfl rfl ?_
              clear hr hl0
              gi_wp2
              refine ⟨?_, q1⟩
              simp (disch := decide) only [selOr_same hlt', selOr_other hlt', selOr_on d0]
            · skip
              refine wpOpIn_of rfl rfl ?_
              clear hr hl0
              gi_wp2
              refine ⟨?_, q1⟩
              simp (disch := decide) only [selOr_same hlt', selOr_other hlt']
            · have d2 : listed.getD 2 false = true := ready_after hr rfl { on := 2, ground := .data } (by simp) rfl
              simp only [selOr_on d2]
              refine wpOpIn_of rfl rfl ?_
              clear hr hl0
              gi_wp2
              refine ⟨?_, q1⟩
              simp (disch := decide) only [selOr_same hlt', selOr_other hlt', selOr_on d2]
            · have d1 : listed.getD 1 false = true := ready_after hr rfl { on := 1, ground := .data } (by simp) rfl
              have d3 : listed.getD 3 false = true := ready_after hr rfl { on := 3, ground := .data } (by simp) rfl
              simp only [selOr_on d1, selOr_on d3]
              refine wpOpIn_of rfl rfl ?_
              clear hr hl0
              gi_wp2
              refine ⟨?_, q1⟩
              simp (disch := decide) only [selOr_same hlt', selOr_other hlt', selOr_on d1, selOr_on d3]
            · skip
              refine wpOpIn_of rfl rfl ?_
              clear hr hl0
              gi_wp2
              refine ⟨?_, q1⟩
              simp (disch := decide) only [selOr_same hlt', selOr_other hlt']
            · have d5 : listed.getD 5 false = true := ready_after hr rfl { on := 5, ground := .data } (by simp) rfl
              simp only [selOr_on d5]
              refine wpOpIn_of rfl rfl ?_
              clear hr hl0
              gi_wp2
              refine ⟨?_, q1⟩
              simp (disch := decide) only [selOr_same hlt', selOr_other hlt', selOr_on d5]
            · skip
              refine wpOpIn_of rfl rfl ?_
              clear hr hl0
              gi_wp2
              refine ⟨?_, q1⟩
              simp (disch := decide) only [selOr_same hlt', selOr_other hlt']
            · have d7 : listed.getD 7 false = true := ready_after hr rfl { on := 7, ground := .data } (by simp) rfl
              simp only [selOr_on d7]
              refine wpOpIn_of rfl rfl ?_
              clear hr hl0
              gi_wp2
              refine ⟨?_, q1⟩
              simp (disch := decide) only [selOr_same hlt', selOr_other hlt', selOr_on d7]
            · have d6 : listed.getD 6 false = true := ready_after hr rfl { on := 6, ground := .data } (by simp) rfl
              have d8 : listed.getD 8 false = true := ready_after hr rfl { on := 8, ground := .data } (by simp) rfl
              simp only [selOr_on d6, selOr_on d8]
              refine wpOpIn_of rfl rfl ?_
              clear hr hl0
              gi_wp2
              refine ⟨?_, q1⟩
              simp (disch := decide) only [selOr_same hlt', selOr_other hlt', selOr_on d6, selOr_on d8]
            · have d4 : listed.getD 4 false = true := ready_after hr rfl { on := 4, ground := .data } (by simp) rfl
              simp only [selOr_on d4]
              refine wpOpIn_of rfl rfl ?_
              clear hr hl0
              gi_wp2
              refine ⟨?_, q1⟩
              simp (disch := decide) only [selOr_same hlt', selOr_other hlt', selOr_on d4]
            · have d9 : listed.getD 9 false = true := ready_after hr rfl { on := 9, ground := .data } (by simp) rfl
              simp only [selOr_on d9]
              refine wpOpIn_of rfl rfl ?_
              clear hr hl0
              gi_wp2
              refine ⟨?_, q1⟩
              simp (disch := decide) only [selOr_same hlt', selOr_other hlt', selOr_on d9]
          case finq =>
            rintro listed a V' hs ⟨rfl, q1⟩ hr
            have all : ∀ j, j < 12 → listed.getD j false = true := fun j hj => by
              cases q : listed.getD j false
              · exact absurd hr (ready_ne hs (by kernel_rfl) j (by simpa using hj) q)
              · rfl
            simp only [selOr_on (all 0 (by decide)), selOr_on (all 1 (by decide)), selOr_on (all 2 (by decide)), selOr_on (all 3 (by decide)), selOr_on (all 4 (by decide)), selOr_on (all 5 (by decide)), selOr_on (all 6 (by decide)), selOr_on (all 7 (by decide)), selOr_on (all 8 (by decide)), selOr_on (all 9 (by decide)), selOr_on (all 10 (by decide)), selOr_on (all 11 (by decide))]
            clear hr hs
            have J2 := G1.out.step q1 G1.out.size.2
            have ca0 : V'.cell? ⟨B, 0, none⟩ = some (.slice (some aa) na ca) := (blk_cell J2.ha 0).trans rfl
            have cb0 : V'.cell? ⟨B + 1, 0, none⟩ = some (.slice (some ab) nb cb) := (blk_cell J2.hb 0).trans rfl
            obtain ⟨o, ho⟩ : ∃ o, tryO l0 l1 [⟨y, nx, 0⟩, ⟨ny, x, 0⟩, ⟨x, y, 0⟩, ⟨nx, ny, 0⟩] = o := ⟨_, rfl⟩
            have hpre2 : tryO l0 l1 ((pre ++ [(p, q)]).flatMap dir4) = o := by
              rw [List.flatMap_append, tryO_append, G2.out, List.flatMap_singleton, HD4.out, ho]; rfl
            have hba : Below V'.heap.size V' (V'.alloc (.cells #[.int .i64 y, .int .i64 nx, .int .i64 0, .int .i64 ny, .int .i64 x, .int .i64 0, .int .i64 x, .int .i64 y, .int .i64 0, .int .i64 nx, .int .i64 ny, .int .i64 0] 75 (0, 0))) := (Below.refl _ _).alloc (Nat.le_refl _) _
            have hbw : Below w.heap.size w (V'.alloc (.cells #[.int .i64 y, .int .i64 nx, .int .i64 0, .int .i64 ny, .int .i64 x, .int .i64 0, .int .i64 x, .int .i64 y, .int .i64 0, .int .i64 nx, .int .i64 ny, .int .i64 0] 75 (0, 0))) := (HBe.out ▸ J2.below : Below w.heap.size w V').trans (hba.mono (by have := J2.below.size; omega))
            have J3 := J2.step hba J2.size.2
            have hVb : Below V.heap.size V (V'.alloc (.cells #[.int .i64 y, .int .i64 nx, .int .i64 0, .int .i64 ny, .int .i64 x, .int .i64 0, .int .i64 x, .int .i64 y, .int .i64 0, .int .i64 nx, .int .i64 ny, .int .i64 0] 75 (0, 0))) := q1.trans (hba.mono q1.size)
            have HCALL := Aside0.mk (HTR.out [⟨y, nx, 0⟩, ⟨ny, x, 0⟩, ⟨x, y, 0⟩, ⟨nx, ny, 0⟩] V'.heap.size 4 (V'.alloc (.cells #[.int .i64 y, .int .i64 nx, .int .i64 0, .int .i64 ny, .int .i64 x, .int .i64 0, .int .i64 x, .int .i64 y, .int .i64 0, .int .i64 nx, .int .i64 ny, .int .i64 0] 75 (0, 0))) (lineR o).1 (lineR o).2.1 (lineR o).2.2.1 (lineR o).2.2.2 hbw (by simp) rfl (line4_C ⟨y, nx, 0⟩ ⟨ny, x, 0⟩ ⟨x, y, 0⟩ ⟨nx, ny, 0⟩ (blk_new _ _)) (by rw [ho]))
            have HP2 := Aside0.mk hpre2
            have HJ3 := Aside0.mk J3
            have HVB := Aside0.mk hVb
            clear ho hpre2 hba hbw J2 J3 hVb all q1 w1 w2
            cases o with
            | some z =>
              have hful : tryO l0 l1 (dirs h) = some z := by
                obtain ⟨tl, htl⟩ := HPR.out
                unfold dirs
                rw [← htl, List.flatMap_append, tryO_append, HP2.out]; rfl
              have HFU := Aside0.mk hful
              clear hful
              gi_wp2
              refine ⟨trivial, rfl, (CallsIn.inRound l' HCALL.out).mono ?_⟩
              rintro e V5 ⟨rfl, hb5⟩
              dsimp only [lineR]
              have hb6 : Below V5.heap.size V5 (V5.alloc (.cells #[.int .i64 z.f0, .int .i64 z.f1, .int .i64 z.f2] 75 (0, 0))) := (Below.refl _ _).alloc (Nat.le_refl _) _
              obtain ⟨V6, hV6⟩ : ∃ V6, V5.alloc (.cells #[.int .i64 z.f0, .int .i64 z.f1, .int .i64 z.f2] 75 (0, 0)) = V6 := ⟨_, rfl⟩
              have kz : V6.heap[V5.heap.size]? = some (.cells (lineC z) 75 (0, 0)) := by rw [← hV6]; exact blk_new _ _
              rw [hV6] at hb6
              have J6 := (HJ3.out.step hb5 HJ3.out.size.2).step hb6 (Nat.le_trans HJ3.out.size.2 hb5.size)
              have HVB6 := Aside0.mk ((HVB.out.trans (hb5.mono HVB.out.size)).trans (hb6.mono (Nat.le_trans HVB.out.size hb5.size)))
              obtain ⟨⟨z0, z1, z2⟩, _⟩ := line_cells kz
              obtain ⟨⟨o0, o1, o2⟩, f0, f1, f2⟩ := line_cells J6.hl
              have fb := blk_frozen J6.hf 0
              have cb : V6.cell? ⟨B + 1 + 1 + 1, 0, none⟩ = some (.bool false) := (blk_cell J6.hf 0).trans rfl
              have HPS := Aside0.mk (part_store z.f0 z.f1 z.f2 true J6)
              have HJ6 := Aside0.mk J6
              clear ca0 cb0 kz hb6 hb5 J6 HCALL
              gi_wp2
              dsimp only [postS]
              refine ⟨(Recs.below HVB6.out hz).trans (HPS.out.2 _ (by have := HI3.out.size; omega)), z, HFU.out, HPS.out.1⟩
            | none =>
              gi_wp2
              refine ⟨trivial, rfl, (CallsIn.inRound l' HCALL.out).mono ?_⟩
              rintro e V5 ⟨rfl, hb5⟩
              dsimp only [lineR]
              have hb6 : Below V5.heap.size V5 (V5.alloc (.cells #[.int .i64 0, .int .i64 0, .int .i64 0] 75 (0, 0))) := (Below.refl _ _).alloc (Nat.le_refl _) _
              have HJ6 := Aside0.mk ((HJ3.out.step hb5 HJ3.out.size.2).step hb6 (Nat.le_trans HJ3.out.size.2 hb5.size))
              have HVB6 := Aside0.mk ((HVB.out.trans (hb5.mono HVB.out.size)).trans (hb6.mono (Nat.le_trans HVB.out.size hb5.size)))
              clear ca0 cb0 hb6 hb5 HCALL
              gi_wp2
              dsimp only [postS]
              exact ⟨HVB6.out.mono (by omega), Recs.below HVB6.out hz, HJ6.out, HP2.out⟩
        case stop =>
          rintro D pre V hD hpre ⟨x, g1, hE⟩ hK
          have hbv : tryO l0 l1 (partL l0 l1) = some x := by
            rw [HPL.out, show (⟨dx, dy, 0⟩ : S75) :: (dirs l0 ++ dirs l1) = [⟨dx, dy, 0⟩] ++ (dirs l0 ++ dirs l1) from rfl, tryO_append, HO.out, tryO_append]
            rcases HCS.out with ⟨_, rfl, _⟩ | ⟨hk1, rfl, _⟩
            · rw [g1]; rfl
            · rw [HN.out.1 (by omega), g1]; rfl
          have HRES : Aside0 (lineR (tryO l0 l1 (partL l0 l1)) = (x.f0, x.f1, x.f2, true)) := ⟨by rw [hbv]; rfl⟩
          have HEA := Aside0.mk hE
          have HDK := Aside0.mk hK
          clear hE hbv g1 hK hidx
          gi_wp2
          have hEs := HEA.out.size
          have hs2 := HS2.out
          refine leaves_coll (B := B + 4) _ (D + 1) _ (HEA.out.coll.push (by omega) hD HDK.out) fun W' hW' => ?_
          refine ⟨_, results_lb rfl _ _ (B + 1 + 1) (lineC x) (B + 1 + 1 + 1) (.bool true) rfl rfl ((hW'.block _ (by omega)).trans HEA.out.hl) ((blk_cell ((hW'.block _ (by omega)).trans HEA.out.hf) 0).trans rfl) rfl, ?_⟩
          exact ⟨by rw [HRES.out]; rfl, HBe.out ▸ HEA.out.below.trans (hW'.mono (by omega))⟩
        case done =>
          rintro D V hD ⟨g1, g2⟩ hK
          have hDV : D < V.heap.size := (Array.getElem?_eq_some_iff.1 hK).1
          have J0 : PInv B w (.slice (some aa) na ca) (.slice (some ab) nb cb) (D + 1) ({ target := .collected D, args := #[] } :: ds) V := ⟨g1.below, ⟨by have := g1.size; omega, by omega⟩, g1.ha, g1.hb, g1.hl, g1.hf, g1.coll.push (by have := g1.size; omega) hD hK⟩
          have HJ0 := Aside0.mk J0.up
          have G2 := Aside0.mk g2
          have hk1 : wrap64 ((k : Int) + 1) = ((k + 1 : Nat) : Int) := by unfold wrap64; omega
          clear hK g1 g2 hDV J0 hidx
          gi_wp2
          first | rw [hk1] | skip
          clear hk1
          refine ⟨⟨k + 1, { target := .collected D, args := #[] } :: ds, _, _, _, _, _, _, rfl, by omega, ⟨fun _ => ?_, fun _ => ?_⟩, HJ0.out⟩, by simp [intOf]; omega⟩
          · rcases HCS.out with ⟨_, e, _⟩ | ⟨hk1, _, _⟩
            · have := G2.out; rw [e] at this; exact this
            · exact HN.out.1 (by omega)
          · rcases HCS.out with ⟨hk1, _, _⟩ | ⟨_, e, _⟩
            · omega
            · have := G2.out; rw [e] at this; exact this
      · have hbv : tryO l0 l1 (partL l0 l1) = none := by
          rw [HPL.out, show (⟨dx, dy, 0⟩ : S75) :: (dirs l0 ++ dirs l1) = [⟨dx, dy, 0⟩] ++ (dirs l0 ++ dirs l1) from rfl, tryO_append, HO.out, tryO_append, hnone.1 (by omega), hnone.2 (by omega)]; rfl
        have HRES : Aside0 (lineR (tryO l0 l1 (partL l0 l1)) = (0, 0, 0, false)) := ⟨by rw [hbv]; rfl⟩
        obtain ⟨⟨o0, o1, o2⟩, f0, f1, f2⟩ := line_cells I.hl
        have fb := blk_frozen I.hf 0
        have cb : W.cell? ⟨B + 1 + 1 + 1, 0, none⟩ = some (.bool false) := (blk_cell I.hf 0).trans rfl
        have HPS := Aside0.mk (part_store 0 0 0 false I)
        clear I hbv
        gi_wp2
        have HE := HPS.out.1
        have hEs := HE.size
        refine leaves_coll (B := B + 4) _ W.heap.size _ HE.coll fun W' hW' => ?_
        refine ⟨_, results_lb rfl _ _ (B + 1 + 1) (lineC ⟨0, 0, 0⟩) (B + 1 + 1 + 1) (.bool false) rfl rfl ((hW'.block _ (by omega)).trans HE.hl) ((blk_cell ((hW'.block _ (by omega)).trans HE.hf) 0).trans rfl) rfl, ?_⟩
        exact ⟨by rw [HRES.out]; rfl, HBe.out ▸ HE.below.trans (hW'.mono (by omega))⟩
theorem some_addr {l : List S23} {A : Option Addr} {w : World} (h : 0 < l.length) (hr : Kd.C k23 w A l.length l) : ∃ ad, A = some ad := by
  obtain ⟨ad, _, e, _⟩ := Kd.C_get hr z23 0 (by omega) (by omega)
  exact ⟨ad, e⟩
theorem plane_part.calls (A0 : Option Addr) (c0 : Nat) (l0 : List (S23)) (A1 : Option Addr) (c1 : Nat) (l1 : List (S23)) (r1 : Int) (r2 : Int) (r3 : Int) (r4 : Bool) (w : World) (hr0 : Kd.C k23 w A0 l0.length l0) (hc0 : l0.length ≤ c0) (hr1 : Kd.C k23 w A1 l1.length l1) (hc1 : l1.length ≤ c1) (h : plane_part.f l0 l1 = some (r1, r2, r3, r4)) :
    Calls Try.prog 106 #[.slice A0 l0.length c0, .slice A1 l1.length c1] w fun e w' => e = .returned (.tuple #[.agg #[.int .i64 r1, .int .i64 r2, .int .i64 r3], .bool r4]) ∧ Below w.heap.size w w' := by
  unfold plane_part.f at h
  split at h
  case isFalse => cases h
  rename_i hg
  obtain ⟨aa, rfl⟩ := some_addr hg.1 hr0
  obtain ⟨ab, rfl⟩ := some_addr hg.2 hr1
  have hc := (callsIn_wide (n := 0)).1 (part_in aa ab c0 c1 l0 l1 w hg.1 hg.2 hr0 hc0 hr1 hc1)
  have he := Option.some.inj h
  rw [he] at hc
  exact hc
end Go.Proofs.Ytegdcnjjelgpjaa.P
namespace Go.Proofs.Ytegdcnjjelgpjaa.P
open Go.RowKit Go.Proofs.YtegdcnjjelgpjaaW.PrintWords Go.Proofs.YtegdcnjjelgpjaaW.PrintLast Go.Proofs.YtegdcnjjelgpjaaW.PrintMore
attribute [local go_sem] max2_int min2_int max_two min_two max_three min_three max_four min_four   -- for this text's walks alone
set_option linter.unusedVariables false
set_option linter.unusedSimpArgs false
def plane_apart.f (l0 : List (S23)) (l1 : List (S23)) : Option (Bool) := (plane_part.f l0 l1).bind fun bt101 => (some bt101.2.2.2)
set_option maxHeartbeats 8000000 in
set_option maxRecDepth 100000 in
theorem plane_apart.calls (A0 : Option Addr) (c0 : Nat) (l0 : List (S23)) (A1 : Option Addr) (c1 : Nat) (l1 : List (S23)) (r : Bool) (w : World) (hr0 : Kd.C k23 w A0 l0.length l0) (hc0 : l0.length ≤ c0) (hr1 : Kd.C k23 w A1 l1.length l1) (hc1 : l1.length ≤ c1) (h : plane_apart.f l0 l1 = some r) :
    Calls Try.prog 95 #[.slice A0 l0.length c0, .slice A1 l1.length c1] w fun e w' => e = .returned (.bool r) ∧ Below w.heap.size w w' := by
  have hu75 := Try.underlying75
  have HR0 := Aside0.mk hr0
  have HC0 := Aside0.mk hc0
  clear hr0 hc0
  have HR1 := Aside0.mk hr1
  have HC1 := Aside0.mk hc1
  clear hr1 hc1
  have HB := Aside0.mk (Below.refl w.heap.size w)
  have H : ((plane_part.f l0 l1).bind fun bt101 => (some bt101.2.2.2)) = some r := h
  clear h
  replace H := Option.bind_eq_some_iff.mp H
  obtain ⟨⟨t101, t102, t103, t104⟩, A30, H⟩ := H
  replace H : (some t104) = some r := H
  have A3 := Aside0.mk A30
  clear A30
  obtain rfl := Option.some.inj H
  go_enter Try.func95, Try.ntmps95
  go_wp2_with (first | ((with_reducible refine gate_callee (f := 106) rfl ?_); refine goesL_ (some 10) rfl rfl Try.func106 (by kernel_rfl) rfl #[.slice A0 l0.length c0, .slice A1 l1.length c1] rfl (by (try simp only [List.map_toArray, List.map_cons, List.map_nil]); first | done | rfl | (simp only [List.length_drop, List.length_take]; rfl)) ?_; (with_reducible refine (plane_part.calls _ _ l0 _ _ l1 t101 t102 t103 t104 _ ?side1 ?side2 ?side3 ?side4 A3.out).mono ?_); (case side1 => repeat (first | exact HR0.out | (with_reducible refine Kd.C_alloc ?_ _) | (with_reducible refine Kd.C_drewN ?_ _) | (with_reducible refine Kd.C_drew ?_))); (case side2 => exact HC0.out); (case side3 => repeat (first | exact HR1.out | (with_reducible refine Kd.C_alloc ?_ _) | (with_reducible refine Kd.C_drewN ?_ _) | (with_reducible refine Kd.C_drew ?_))); (case side4 => exact HC1.out); rintro e w4 ⟨rfl, hb⟩; refine ⟨_, rfl, ?_⟩; have n0_ := Aside0.mk (below_step (by repeat (first | (with_reducible first | exact HB.out | apply below_alloc | apply pw_below_drewN | apply below_drew1) | exact HB.out)) hb); clear HB; have HB := n0_; clear n0_; (try clear hb); (try clear hb2); (try clear hk); (try clear hi)) | ((with_reducible refine gate_dst (N := 5) rfl ?_); refine box_event ?hg (N := 5) ?hd (cs := #[.int .i64 0, .int .i64 0, .int .i64 0]) (t := 75) ?hr ?_; (case hd => rfl); (case hg => rfl); (case hr => first | (go_simp; done) | (go_simp; rfl)); intro gb105 hg w5 hbox hb; have n0_ := Aside0.mk (below_step (by repeat (first | (with_reducible first | exact HB.out | apply below_alloc | apply pw_below_drewN | apply below_drew1) | exact HB.out)) hb); have n1_ := Aside0.mk (hbox); have n2_ := Aside0.mk ((by rw [hg]; exact (below_size (by repeat (first | (with_reducible first | exact HB.out | apply below_alloc | apply pw_below_drewN | apply below_drew1) | exact HB.out))) : w.heap.size ≤ gb105)); have n3_ := Aside0.mk ((by rw [hg]; exact (below_size (by repeat (first | (with_reducible first | exact HB.out | apply below_alloc | apply pw_below_drewN | apply below_drew1) | exact HB.out))) : w.heap.size ≤ gb105)); clear HB; have HB := n0_; have BK105 := n1_; have GW105 := n2_; have GE105 := n3_; clear n0_ n1_ n2_ n3_; clear hb hbox hg; have hcz6_0 : w5.cell? ⟨gb105, 0, none⟩ = some (.int .i64 0) := (blk_cell BK105.out 0).trans rfl; have hcz6_1 : w5.cell? ⟨gb105, 1, none⟩ = some (.int .i64 0) := (blk_cell BK105.out 1).trans rfl; have hcz6_2 : w5.cell? ⟨gb105, 2, none⟩ = some (.int .i64 0) := (blk_cell BK105.out 2).trans rfl; have hfz6_0 := blk_frozen BK105.out 0; have hfz6_1 := blk_frozen BK105.out 1; have hfz6_2 := blk_frozen BK105.out 2))
  go_ret
  exact ⟨by first | rfl | (simp [errW_none, errW_some] <;> rfl) | (simp [*, errW_none, errW_some] <;> rfl), by repeat (first | (with_reducible first | exact HB.out | apply below_alloc | apply pw_below_drewN | apply below_drew1 | refine below_set ?_ GE105.out) | exact HB.out)⟩
end Go.Proofs.Ytegdcnjjelgpjaa.P
namespace Go.Proofs.Ytegdcnjjelgpjaa.P
open Go.RowKit Go.Proofs.YtegdcnjjelgpjaaW.PrintWords Go.Proofs.YtegdcnjjelgpjaaW.PrintLast Go.Proofs.YtegdcnjjelgpjaaW.PrintMore
attribute [local go_sem] max2_int min2_int max_two min_two max_three min_three max_four min_four   -- for this text's walks alone
set_option linter.unusedVariables false
set_option linter.unusedSimpArgs false
def plane_Inside.f (k : Nat) (l0 : List (S23)) (a1_0 : Int) (a1_1 : Int) : Option (Bool × Int) := (plane_checkHulls.f (([l0] : List (List (S23))))).bind fun t105 => (if t105 = 0 then ((plane_valid.f k (([(⟨a1_0, a1_1⟩ : S23)] : List (S23)))).bind fun t109 => (if t109 = true then ((plane_apart.f l0 (([(⟨a1_0, a1_1⟩ : S23)] : List (S23)))).bind fun t113 => (some (!t113, 0))) else (some (false, 2)))) else (some (false, t105)))
theorem plane_Inside.mono : ∀ a0 a1 a2 k, LeO (plane_Inside.f k a0 a1 a2) (plane_Inside.f (k + 1) a0 a1 a2) := by
  intro a0 a1 a2 k
  unfold plane_Inside.f
  repeat' first
      | (with_reducible exact plane_valid.mono _ _)
      | (with_reducible exact LeO.refl _)
      | (with_reducible exact LeO.none _)
      | (with_reducible refine LeO.ite ?_ ?_)
      | (with_reducible refine LeO.bind ?_ (fun _ => ?_))
      | exact plane_valid.mono _ _
      | exact LeO.none _
      | refine LeO.ite ?_ ?_
      | refine LeO.bind ?_ (fun _ => ?_)
set_option maxHeartbeats 8000000 in
set_option maxRecDepth 100000 in
theorem plane_Inside.calls (k : Nat) (P0_ : Nat → Prop) (A0 : Option Addr) (c0 : Nat) (l0 : List (S23)) (a1_0 : Int) (a1_1 : Int) (r1 : Bool) (r2 : Int) (w : World) (hs0 : Kd.V k23 23 w w.heap.size (fun k_ => P0_ k_) (.slice A0 l0.length c0) l0) (h : plane_Inside.f k l0 a1_0 a1_1 = some (r1, r2)) :
    Calls Try.prog 49 #[.slice A0 l0.length c0, .agg #[.int .i64 a1_0, .int .i64 a1_1]] w fun e w' => e = .returned (.tuple #[.bool r1, .int .i64 r2]) ∧ Below w.heap.size w w' := by
  have hu23 := Try.underlying23
  have HO0 := Aside0.mk (show Kd.V k23 23 w w.heap.size (fun k_ => (P0_ k_ ∨ w.heap.size ≤ k_)) (.slice A0 l0.length c0) l0 from Kd.V_mono hs0 (fun k_ hk => .inl hk))
  have HB := Aside0.mk (Below.refl w.heap.size w)
  have H : ((plane_checkHulls.f (([l0] : List (List (S23))))).bind fun t105 => (if t105 = 0 then ((plane_valid.f k (([(⟨a1_0, a1_1⟩ : S23)] : List (S23)))).bind fun t109 => (if t109 = true then ((plane_apart.f l0 (([(⟨a1_0, a1_1⟩ : S23)] : List (S23)))).bind fun t113 => (some (!t113, 0))) else (some (false, 2)))) else (some (false, t105)))) = some (r1, r2) := h
  clear h
  obtain ⟨y102, hy102⟩ : ∃ y_ : List (List (S23)), y_ = (([l0] : List (List (S23)))) := ⟨_, rfl⟩
  replace H : ((plane_checkHulls.f y102).bind fun t105 => (if t105 = 0 then ((plane_valid.f k (([(⟨a1_0, a1_1⟩ : S23)] : List (S23)))).bind fun t109 => (if t109 = true then ((plane_apart.f l0 (([(⟨a1_0, a1_1⟩ : S23)] : List (S23)))).bind fun t113 => (some (!t113, 0))) else (some (false, 2)))) else (some (false, t105)))) = some (r1, r2) := by first | (rw [hy102]; with_reducible exact H) | (have H2_ := (Option.bind_some _ _).symm.trans H; rw [hy102]; with_reducible exact H2_) | (have H2_ := (Option.bind_some _ _).symm.trans H; with_reducible exact H2_) | with_reducible exact H | (rw [hy102]; exact H) | exact H
  have Ny102 := Aside0.mk hy102
  clear hy102
  replace H := Option.bind_eq_some_iff.mp H
  obtain ⟨t105, A30, H⟩ := H
  replace H : (if t105 = 0 then ((plane_valid.f k (([(⟨a1_0, a1_1⟩ : S23)] : List (S23)))).bind fun t109 => (if t109 = true then ((plane_apart.f l0 (([(⟨a1_0, a1_1⟩ : S23)] : List (S23)))).bind fun t113 => (some (!t113, 0))) else (some (false, 2)))) else (some (false, t105))) = some (r1, r2) := H
  have A3 := Aside0.mk A30
  clear A30
  by_cases c4 : t105 = 0
  · rw [if_pos c4] at H
    have c4b0 : (t105 == 0) = true := beq_iff_eq.mpr c4
    have c4b1 : (t105 != 0) = false := bne_eq_false_iff_eq.mpr c4
    clear c4
    obtain ⟨y106, hy106⟩ : ∃ y_ : List (S23), y_ = (([(⟨a1_0, a1_1⟩ : S23)] : List (S23))) := ⟨_, rfl⟩
    replace H : ((plane_valid.f k y106).bind fun t109 => (if t109 = true then ((plane_apart.f l0 (([(⟨a1_0, a1_1⟩ : S23)] : List (S23)))).bind fun t113 => (some (!t113, 0))) else (some (false, 2)))) = some (r1, r2) := by first | (rw [hy106]; with_reducible exact H) | (have H2_ := (Option.bind_some _ _).symm.trans H; rw [hy106]; with_reducible exact H2_) | (have H2_ := (Option.bind_some _ _).symm.trans H; with_reducible exact H2_) | with_reducible exact H | (rw [hy106]; exact H) | exact H
    have Ny106 := Aside0.mk hy106
    clear hy106
    replace H := Option.bind_eq_some_iff.mp H
    obtain ⟨t109, A50, H⟩ := H
    replace H : (if t109 = true then ((plane_apart.f l0 (([(⟨a1_0, a1_1⟩ : S23)] : List (S23)))).bind fun t113 => (some (!t113, 0))) else (some (false, 2))) = some (r1, r2) := H
    have A5 := Aside0.mk A50
    clear A50
    by_cases c6 : t109 = true
    · subst c6
      have H1 : ((plane_apart.f l0 (([(⟨a1_0, a1_1⟩ : S23)] : List (S23)))).bind fun t113 => (some (!t113, 0))) = some (r1, r2) := by rw [if_pos rfl] at H; exact H
      clear H
      have H := H1
      clear H1
      obtain ⟨y110, hy110⟩ : ∃ y_ : List (S23), y_ = (([(⟨a1_0, a1_1⟩ : S23)] : List (S23))) := ⟨_, rfl⟩
      replace H : ((plane_apart.f l0 y110).bind fun t113 => (some (!t113, 0))) = some (r1, r2) := by first | (rw [hy110]; with_reducible exact H) | (have H2_ := (Option.bind_some _ _).symm.trans H; rw [hy110]; with_reducible exact H2_) | (have H2_ := (Option.bind_some _ _).symm.trans H; with_reducible exact H2_) | with_reducible exact H | (rw [hy110]; exact H) | exact H
      have Ny110 := Aside0.mk hy110
      clear hy110
      replace H := Option.bind_eq_some_iff.mp H
      obtain ⟨t113, A70, H⟩ := H
      replace H : (some (!t113, 0)) = some (r1, r2) := H
      have A7 := Aside0.mk A70
      clear A70
      simp only [Option.some.injEq, Prod.mk.injEq] at H
      obtain ⟨rfl, rfl⟩ := H
      go_enter Try.func49, Try.ntmps49
      go_wp2_with (first | ((with_reducible refine gate_dst (N := 3) rfl ?_); refine box_event ?hg (N := 3) ?hd (cs := #[.int .i64 a1_0, .int .i64 a1_1]) (t := 23) ?hr ?_; (case hd => rfl); (case hg => rfl); (case hr => first | (go_simp; done) | (go_simp; rfl)); intro gb101 hg w8 hbox hb; have n0_ := Aside0.mk (Kd.V_below (Kd.V_elderB (by (with_reducible repeat (first | apply Kd.V_alloc | apply Kd.V_drewN | apply Kd.V_drew)); exact HO0.out) gb101 (Nat.le_of_eq hg.symm)) hb); have n1_ := Aside0.mk (below_step (by repeat (first | (with_reducible first | exact HB.out | apply below_alloc | apply pw_below_drewN | apply below_drew1) | exact HB.out)) hb); have n2_ := Aside0.mk (hbox); have n3_ := Aside0.mk ((by rw [hg]; exact (below_size (by repeat (first | (with_reducible first | exact HB.out | apply below_alloc | apply pw_below_drewN | apply below_drew1) | exact HB.out))) : w.heap.size ≤ gb101)); have n4_ := Aside0.mk ((by rw [hg]; exact (below_size (by repeat (first | (with_reducible first | exact HB.out | apply below_alloc | apply pw_below_drewN | apply below_drew1) | exact HB.out))) : w.heap.size ≤ gb101)); clear HO0; clear HB; have HO0 := n0_; have HB := n1_; have BK101 := n2_; have GW101 := n3_; have GE101 := n4_; clear n0_ n1_ n2_ n3_ n4_; clear hb hbox hg) | ((with_reducible refine gate_dst (N := 8) rfl ?_); refine Kd.N_lit (Kd.slice 23 k23) _ 53 ?hg (N' := 8) ?hd (xs := ([l0] : List (List (S23)))) (inner := [.slice A0 l0.length c0]) (ok := (fun k_ => (P0_ k_ ∨ w.heap.size ≤ k_) ∧ k_ ≠ gb101)) (okp := (fun k_ => (P0_ k_ ∨ w.heap.size ≤ k_) ∧ k_ ≠ gb101)) ?hr ?hp (fun _ hk => hk) ((show ∀ k_, w8.heap.size ≤ k_ → (fun k_ => (P0_ k_ ∨ w.heap.size ≤ k_) ∧ k_ ≠ gb101) k_ from fun k_ hk => ⟨(.inr (Nat.le_trans (below_size (by repeat (first | (with_reducible first | exact HB.out | apply below_alloc | apply pw_below_drewN | apply below_drew1 | refine below_set ?_ GE101.out) | exact HB.out))) hk)), Kd.freshB (g := gb101) (o := .cells #[.int .i64 a1_0, .int .i64 a1_1] 23 (0, 0)) (by (with_reducible repeat (first | refine blk_drewN ?_ _ | refine blk_drew ?_ | refine blk_alloc ?_ _)); exact BK101.out) k_ hk⟩) _ (Nat.le_refl _)) (Below.refl _ _) (Nat.le_refl _) (by simp) ?_; (case hd => rfl); (case hg => rfl); (case hr => first | (go_simp; done) | (go_simp; rfl)); (case hp => exact (Reps.one (show Kd.FK (Kd.slice 23 k23) _ _ l0 [.slice A0 l0.length c0] from (Kd.FK_slice_mk (Kd.V_reads' (Kd.V_mono (ok' := (fun k_ => (P0_ k_ ∨ w.heap.size ≤ k_) ∧ k_ ≠ gb101)) (HO0.out) (fun k_ hk => ⟨hk.1, hk.2⟩))).2.1 (Kd.V_F (Kd.V_mono (ok' := (fun k_ => (P0_ k_ ∨ w.heap.size ≤ k_) ∧ k_ ≠ gb101)) (HO0.out) (fun k_ hk => ⟨hk.1, hk.2⟩))))) (Reps.none _ _))); intro v103 w9 ho10 hb hg_ hnew_; clear hg_ hnew_; (first | rw [← Ny102.out] at ho10 | (simp only [Int.reduceToNat] at ho10; rw [← Ny102.out] at ho10)); have n0_ := Aside0.mk (Kd.V_elder' (by (with_reducible repeat (first | apply Kd.V_alloc | apply Kd.V_drewN | apply Kd.V_drew)); exact HO0.out) (Kd.N_base ho10) hb); have n1_ := Aside0.mk (Kd.N_lower ho10 (below_size (by repeat (first | (with_reducible first | exact HB.out | apply below_alloc | apply pw_below_drewN | apply below_drew1 | refine below_set ?_ GE101.out) | exact HB.out)))); have n2_ := Aside0.mk (blk_below (g := gb101) (o := .cells #[.int .i64 a1_0, .int .i64 a1_1] 23 (0, 0)) (by (with_reducible repeat (first | refine blk_drewN ?_ _ | refine blk_drew ?_ | refine blk_alloc ?_ _)); exact BK101.out) hb); have n3_ := Aside0.mk (below_step (by repeat (first | (with_reducible first | exact HB.out | apply below_alloc | apply pw_below_drewN | apply below_drew1 | refine below_set ?_ GE101.out) | exact HB.out)) hb); clear HO0; clear BK101; clear HB; have HO0 := n0_; have HO104 := n1_; have BK101 := n2_; have HB := n3_; clear n0_ n1_ n2_ n3_; clear hb ho10; obtain ⟨Ao11, co11, eo11⟩ := Kd.N_slice HO104.out; subst eo11) | ((with_reducible refine gate_callee (f := 94) rfl ?_); refine goesL_ (some 9) rfl rfl Try.func94 (by kernel_rfl) rfl #[.slice Ao11 y102.length co11] rfl (by (try simp only [List.map_toArray, List.map_cons, List.map_nil]); first | done | rfl | (simp only [List.length_drop, List.length_take]; rfl)) ?_; (with_reducible refine (plane_checkHulls.calls _ _ y102 t105 _ ?side1 ?side2 A3.out).mono ?_); (case side1 => repeat (first | exact (Kd.N_reads' HO104.out).2.2 | (with_reducible refine Kd.C_alloc ?_ _) | (with_reducible refine Kd.C_drewN ?_ _) | (with_reducible refine Kd.C_drew ?_))); (case side2 => exact (Kd.N_reads' HO104.out).2.1); rintro e w12 ⟨rfl, hb⟩; refine ⟨_, rfl, ?_⟩; have n0_ := Aside0.mk (Kd.V_below (by (with_reducible repeat (first | apply Kd.V_alloc | apply Kd.V_drewN | apply Kd.V_drew)); exact HO0.out) hb); have n1_ := Aside0.mk (Kd.N_below (by (with_reducible repeat (first | apply Kd.N_alloc | apply Kd.N_drewN | apply Kd.N_drew)); exact HO104.out) hb); have n2_ := Aside0.mk (blk_below (g := gb101) (o := .cells #[.int .i64 a1_0, .int .i64 a1_1] 23 (0, 0)) (by (with_reducible repeat (first | refine blk_drewN ?_ _ | refine blk_drew ?_ | refine blk_alloc ?_ _)); exact BK101.out) hb); have n3_ := Aside0.mk (below_step (by repeat (first | (with_reducible first | exact HB.out | apply below_alloc | apply pw_below_drewN | apply below_drew1 | refine below_set ?_ GE101.out) | exact HB.out)) hb); clear HO0; clear HO104; clear BK101; clear HB; have HO0 := n0_; have HO104 := n1_; have BK101 := n2_; have HB := n3_; clear n0_ n1_ n2_ n3_; (try clear hb); (try clear hb2); (try clear hk); (try clear hi); have hcz13_0 : w12.cell? ⟨gb101, 0, none⟩ = some (.int .i64 a1_0) := (blk_cell BK101.out 0).trans rfl; have hcz13_1 : w12.cell? ⟨gb101, 1, none⟩ = some (.int .i64 a1_1) := (blk_cell BK101.out 1).trans rfl; have hfz13_0 := blk_frozen BK101.out 0; have hfz13_1 := blk_frozen BK101.out 1) | ((with_reducible refine gate_dst (N := 14) rfl ?_); refine Kd.R_lit k23 _ 23 ?hg (N := 14) ?hd (xs := ([(⟨a1_0, a1_1⟩ : S23)] : List (S23))) (inner := [.int .i64 a1_0, .int .i64 a1_1]) (ok := fun _ => True) (okp := fun _ => True) ?hr ?hp (fun _ hk => hk) trivial (Below.refl _ _) (Nat.le_refl _) (by simp) ?_; (case hd => rfl); (case hg => rfl); (case hr => first | (go_simp; done) | (go_simp; rfl)); (case hp => exact (Reps.c2 (show Kd.M k23 _ _ _ (⟨a1_0, a1_1⟩ : S23) [.int .i64 a1_0, .int .i64 a1_1] from (k23_mkM _ _ _ (⟨a1_0, a1_1⟩ : S23) )) (Reps.none _ _))); intro v107 w14 ho15 hb hg_ hnew_; clear hg_ hnew_; (first | rw [← Ny106.out] at ho15 | (simp only [Int.reduceToNat] at ho15; rw [← Ny106.out] at ho15)); have n0_ := Aside0.mk (Kd.V_elder' (by (with_reducible repeat (first | apply Kd.V_alloc | apply Kd.V_drewN | apply Kd.V_drew)); exact HO0.out) (Kd.R_base ho15) hb); have n1_ := Aside0.mk (Kd.N_elder' (by (with_reducible repeat (first | apply Kd.N_alloc | apply Kd.N_drewN | apply Kd.N_drew)); exact HO104.out) (Kd.R_base ho15) hb); have n2_ := Aside0.mk (Kd.R_lower (Kd.R_newB (Kd.R_newM (M := fun k_ => (w.heap.size ≤ k_)) ho15 (below_size (by repeat (first | (with_reducible first | exact HB.out | apply below_alloc | apply pw_below_drewN | apply below_drew1 | refine below_set ?_ GE101.out) | exact HB.out))) (fun k_ h_ => h_)) (g := gb101) (o := .cells #[.int .i64 a1_0, .int .i64 a1_1] 23 (0, 0)) (by (with_reducible repeat (first | refine blk_drewN ?_ _ | refine blk_drew ?_ | refine blk_alloc ?_ _)); exact BK101.out)) (below_size (by repeat (first | (with_reducible first | exact HB.out | apply below_alloc | apply pw_below_drewN | apply below_drew1 | refine below_set ?_ GE101.out) | exact HB.out)))); have n3_ := Aside0.mk (blk_below (g := gb101) (o := .cells #[.int .i64 a1_0, .int .i64 a1_1] 23 (0, 0)) (by (with_reducible repeat (first | refine blk_drewN ?_ _ | refine blk_drew ?_ | refine blk_alloc ?_ _)); exact BK101.out) hb); have n4_ := Aside0.mk (below_step (by repeat (first | (with_reducible first | exact HB.out | apply below_alloc | apply pw_below_drewN | apply below_drew1 | refine below_set ?_ GE101.out) | exact HB.out)) hb); clear HO0; clear HO104; clear BK101; clear HB; have HO0 := n0_; have HO104 := n1_; have HO108 := n2_; have BK101 := n3_; have HB := n4_; clear n0_ n1_ n2_ n3_ n4_; clear hb ho15; obtain ⟨Ao16, co16, eo16⟩ := Kd.R_slice HO108.out; subst eo16) | ((with_reducible refine gate_callee (f := 66) rfl ?_); refine goesL_ (some 15) rfl rfl Try.func66 (by kernel_rfl) rfl #[.slice Ao16 y106.length co16] rfl (by (try simp only [List.map_toArray, List.map_cons, List.map_nil]); first | done | rfl | (simp only [List.length_drop, List.length_take]; rfl)) ?_; (with_reducible refine (plane_valid.calls k _ _ y106 true _ ?side1 ?side2 A5.out).mono ?_); (case side1 => repeat (first | exact (Kd.R_reads' HO108.out).2.2 | (with_reducible refine Kd.C_alloc ?_ _) | (with_reducible refine Kd.C_drewN ?_ _) | (with_reducible refine Kd.C_drew ?_))); (case side2 => exact (Kd.R_reads' HO108.out).2.1); rintro e w17 ⟨rfl, hb⟩; refine ⟨_, rfl, ?_⟩; have n0_ := Aside0.mk (Kd.V_below (by (with_reducible repeat (first | apply Kd.V_alloc | apply Kd.V_drewN | apply Kd.V_drew)); exact HO0.out) hb); have n1_ := Aside0.mk (Kd.N_below (by (with_reducible repeat (first | apply Kd.N_alloc | apply Kd.N_drewN | apply Kd.N_drew)); exact HO104.out) hb); have n2_ := Aside0.mk (Kd.R_below (by (with_reducible repeat (first | apply Kd.R_alloc | apply Kd.R_drewN | apply Kd.R_drew)); exact HO108.out) hb); have n3_ := Aside0.mk (blk_below (g := gb101) (o := .cells #[.int .i64 a1_0, .int .i64 a1_1] 23 (0, 0)) (by (with_reducible repeat (first | refine blk_drewN ?_ _ | refine blk_drew ?_ | refine blk_alloc ?_ _)); exact BK101.out) hb); have n4_ := Aside0.mk (below_step (by repeat (first | (with_reducible first | exact HB.out | apply below_alloc | apply pw_below_drewN | apply below_drew1 | refine below_set ?_ GE101.out) | exact HB.out)) hb); clear HO0; clear HO104; clear HO108; clear BK101; clear HB; have HO0 := n0_; have HO104 := n1_; have HO108 := n2_; have BK101 := n3_; have HB := n4_; clear n0_ n1_ n2_ n3_ n4_; (try clear hb); (try clear hb2); (try clear hk); (try clear hi); have hcz18_0 : w17.cell? ⟨gb101, 0, none⟩ = some (.int .i64 a1_0) := (blk_cell BK101.out 0).trans rfl; have hcz18_1 : w17.cell? ⟨gb101, 1, none⟩ = some (.int .i64 a1_1) := (blk_cell BK101.out 1).trans rfl; have hfz18_0 := blk_frozen BK101.out 0; have hfz18_1 := blk_frozen BK101.out 1) | ((with_reducible refine gate_dst (N := 19) rfl ?_); refine Kd.R_lit k23 _ 23 ?hg (N := 19) ?hd (xs := ([(⟨a1_0, a1_1⟩ : S23)] : List (S23))) (inner := [.int .i64 a1_0, .int .i64 a1_1]) (ok := fun _ => True) (okp := fun _ => True) ?hr ?hp (fun _ hk => hk) trivial (Below.refl _ _) (Nat.le_refl _) (by simp) ?_; (case hd => rfl); (case hg => rfl); (case hr => first | (go_simp; done) | (go_simp; rfl)); (case hp => exact (Reps.c2 (show Kd.M k23 _ _ _ (⟨a1_0, a1_1⟩ : S23) [.int .i64 a1_0, .int .i64 a1_1] from (k23_mkM _ _ _ (⟨a1_0, a1_1⟩ : S23) )) (Reps.none _ _))); intro v111 w19 ho20 hb hg_ hnew_; clear hg_ hnew_; (first | rw [← Ny110.out] at ho20 | (simp only [Int.reduceToNat] at ho20; rw [← Ny110.out] at ho20)); have n0_ := Aside0.mk (Kd.V_elder' (by (with_reducible repeat (first | apply Kd.V_alloc | apply Kd.V_drewN | apply Kd.V_drew)); exact HO0.out) (Kd.R_base ho20) hb); have n1_ := Aside0.mk (Kd.N_elder' (by (with_reducible repeat (first | apply Kd.N_alloc | apply Kd.N_drewN | apply Kd.N_drew)); exact HO104.out) (Kd.R_base ho20) hb); have n2_ := Aside0.mk (Kd.R_elder' (by (with_reducible repeat (first | apply Kd.R_alloc | apply Kd.R_drewN | apply Kd.R_drew)); exact HO108.out) (Kd.R_base ho20) hb); have n3_ := Aside0.mk (Kd.R_lower (Kd.R_newB (Kd.R_new' (Kd.R_newM (M := fun k_ => (w.heap.size ≤ k_)) ho20 (below_size (by repeat (first | (with_reducible first | exact HB.out | apply below_alloc | apply pw_below_drewN | apply below_drew1 | refine below_set ?_ GE101.out) | exact HB.out))) (fun k_ h_ => h_)) (Kd.R_lt (by (with_reducible repeat (first | apply Kd.R_alloc | apply Kd.R_drewN | apply Kd.R_drew)); exact HO108.out))) (g := gb101) (o := .cells #[.int .i64 a1_0, .int .i64 a1_1] 23 (0, 0)) (by (with_reducible repeat (first | refine blk_drewN ?_ _ | refine blk_drew ?_ | refine blk_alloc ?_ _)); exact BK101.out)) (below_size (by repeat (first | (with_reducible first | exact HB.out | apply below_alloc | apply pw_below_drewN | apply below_drew1 | refine below_set ?_ GE101.out) | exact HB.out)))); have n4_ := Aside0.mk (blk_below (g := gb101) (o := .cells #[.int .i64 a1_0, .int .i64 a1_1] 23 (0, 0)) (by (with_reducible repeat (first | refine blk_drewN ?_ _ | refine blk_drew ?_ | refine blk_alloc ?_ _)); exact BK101.out) hb); have n5_ := Aside0.mk (below_step (by repeat (first | (with_reducible first | exact HB.out | apply below_alloc | apply pw_below_drewN | apply below_drew1 | refine below_set ?_ GE101.out) | exact HB.out)) hb); clear HO0; clear HO104; clear HO108; clear BK101; clear HB; have HO0 := n0_; have HO104 := n1_; have HO108 := n2_; have HO112 := n3_; have BK101 := n4_; have HB := n5_; clear n0_ n1_ n2_ n3_ n4_ n5_; clear hb ho20; obtain ⟨Ao21, co21, eo21⟩ := Kd.R_slice HO112.out; subst eo21) | ((with_reducible refine gate_callee (f := 95) rfl ?_); refine goesL_ (some 20) rfl rfl Try.func95 (by kernel_rfl) rfl #[.slice A0 l0.length c0, .slice Ao21 y110.length co21] rfl (by (try simp only [List.map_toArray, List.map_cons, List.map_nil]); first | done | rfl | (simp only [List.length_drop, List.length_take]; rfl)) ?_; (with_reducible refine (plane_apart.calls _ _ l0 _ _ y110 t113 _ ?side1 ?side2 ?side3 ?side4 A7.out).mono ?_); (case side1 => repeat (first | exact (Kd.V_reads' HO0.out).2.2 | (with_reducible refine Kd.C_alloc ?_ _) | (with_reducible refine Kd.C_drewN ?_ _) | (with_reducible refine Kd.C_drew ?_))); (case side2 => exact (Kd.V_reads' HO0.out).2.1); (case side3 => repeat (first | exact (Kd.R_reads' HO112.out).2.2 | (with_reducible refine Kd.C_alloc ?_ _) | (with_reducible refine Kd.C_drewN ?_ _) | (with_reducible refine Kd.C_drew ?_))); (case side4 => exact (Kd.R_reads' HO112.out).2.1); rintro e w22 ⟨rfl, hb⟩; refine ⟨_, rfl, ?_⟩; have n0_ := Aside0.mk (Kd.V_below (by (with_reducible repeat (first | apply Kd.V_alloc | apply Kd.V_drewN | apply Kd.V_drew)); exact HO0.out) hb); have n1_ := Aside0.mk (Kd.N_below (by (with_reducible repeat (first | apply Kd.N_alloc | apply Kd.N_drewN | apply Kd.N_drew)); exact HO104.out) hb); have n2_ := Aside0.mk (Kd.R_below (by (with_reducible repeat (first | apply Kd.R_alloc | apply Kd.R_drewN | apply Kd.R_drew)); exact HO108.out) hb); have n3_ := Aside0.mk (Kd.R_below (by (with_reducible repeat (first | apply Kd.R_alloc | apply Kd.R_drewN | apply Kd.R_drew)); exact HO112.out) hb); have n4_ := Aside0.mk (blk_below (g := gb101) (o := .cells #[.int .i64 a1_0, .int .i64 a1_1] 23 (0, 0)) (by (with_reducible repeat (first | refine blk_drewN ?_ _ | refine blk_drew ?_ | refine blk_alloc ?_ _)); exact BK101.out) hb); have n5_ := Aside0.mk (below_step (by repeat (first | (with_reducible first | exact HB.out | apply below_alloc | apply pw_below_drewN | apply below_drew1 | refine below_set ?_ GE101.out) | exact HB.out)) hb); clear HO0; clear HO104; clear HO108; clear HO112; clear BK101; clear HB; have HO0 := n0_; have HO104 := n1_; have HO108 := n2_; have HO112 := n3_; have BK101 := n4_; have HB := n5_; clear n0_ n1_ n2_ n3_ n4_ n5_; (try clear hb); (try clear hb2); (try clear hk); (try clear hi)))
      go_ret2
      exact ⟨by first | rfl | (simp [errW_none, errW_some] <;> rfl) | (simp [*, errW_none, errW_some] <;> rfl), by repeat (first | (with_reducible first | exact HB.out | apply below_alloc | apply pw_below_drewN | apply below_drew1 | refine below_set ?_ GE101.out) | exact HB.out)⟩
    · replace c6 := Bool.eq_false_iff.mpr c6
      subst c6
      have H1 : (some (false, 2)) = some (r1, r2) := by rw [if_neg (show ¬ (false = true) by decide)] at H; exact H
      clear H
      have H := H1
      clear H1
      simp only [Option.some.injEq, Prod.mk.injEq] at H
      obtain ⟨rfl, rfl⟩ := H
      go_enter Try.func49, Try.ntmps49
      go_wp2_with (first | ((with_reducible refine gate_dst (N := 3) rfl ?_); refine box_event ?hg (N := 3) ?hd (cs := #[.int .i64 a1_0, .int .i64 a1_1]) (t := 23) ?hr ?_; (case hd => rfl); (case hg => rfl); (case hr => first | (go_simp; done) | (go_simp; rfl)); intro gb101 hg w23 hbox hb; have n0_ := Aside0.mk (Kd.V_below (Kd.V_elderB (by (with_reducible repeat (first | apply Kd.V_alloc | apply Kd.V_drewN | apply Kd.V_drew)); exact HO0.out) gb101 (Nat.le_of_eq hg.symm)) hb); have n1_ := Aside0.mk (below_step (by repeat (first | (with_reducible first | exact HB.out | apply below_alloc | apply pw_below_drewN | apply below_drew1) | exact HB.out)) hb); have n2_ := Aside0.mk (hbox); have n3_ := Aside0.mk ((by rw [hg]; exact (below_size (by repeat (first | (with_reducible first | exact HB.out | apply below_alloc | apply pw_below_drewN | apply below_drew1) | exact HB.out))) : w.heap.size ≤ gb101)); have n4_ := Aside0.mk ((by rw [hg]; exact (below_size (by repeat (first | (with_reducible first | exact HB.out | apply below_alloc | apply pw_below_drewN | apply below_drew1) | exact HB.out))) : w.heap.size ≤ gb101)); clear HO0; clear HB; have HO0 := n0_; have HB := n1_; have BK101 := n2_; have GW101 := n3_; have GE101 := n4_; clear n0_ n1_ n2_ n3_ n4_; clear hb hbox hg) | ((with_reducible refine gate_dst (N := 8) rfl ?_); refine Kd.N_lit (Kd.slice 23 k23) _ 53 ?hg (N' := 8) ?hd (xs := ([l0] : List (List (S23)))) (inner := [.slice A0 l0.length c0]) (ok := (fun k_ => (P0_ k_ ∨ w.heap.size ≤ k_) ∧ k_ ≠ gb101)) (okp := (fun k_ => (P0_ k_ ∨ w.heap.size ≤ k_) ∧ k_ ≠ gb101)) ?hr ?hp (fun _ hk => hk) ((show ∀ k_, w23.heap.size ≤ k_ → (fun k_ => (P0_ k_ ∨ w.heap.size ≤ k_) ∧ k_ ≠ gb101) k_ from fun k_ hk => ⟨(.inr (Nat.le_trans (below_size (by repeat (first | (with_reducible first | exact HB.out | apply below_alloc | apply pw_below_drewN | apply below_drew1 | refine below_set ?_ GE101.out) | exact HB.out))) hk)), Kd.freshB (g := gb101) (o := .cells #[.int .i64 a1_0, .int .i64 a1_1] 23 (0, 0)) (by (with_reducible repeat (first | refine blk_drewN ?_ _ | refine blk_drew ?_ | refine blk_alloc ?_ _)); exact BK101.out) k_ hk⟩) _ (Nat.le_refl _)) (Below.refl _ _) (Nat.le_refl _) (by simp) ?_; (case hd => rfl); (case hg => rfl); (case hr => first | (go_simp; done) | (go_simp; rfl)); (case hp => exact (Reps.one (show Kd.FK (Kd.slice 23 k23) _ _ l0 [.slice A0 l0.length c0] from (Kd.FK_slice_mk (Kd.V_reads' (Kd.V_mono (ok' := (fun k_ => (P0_ k_ ∨ w.heap.size ≤ k_) ∧ k_ ≠ gb101)) (HO0.out) (fun k_ hk => ⟨hk.1, hk.2⟩))).2.1 (Kd.V_F (Kd.V_mono (ok' := (fun k_ => (P0_ k_ ∨ w.heap.size ≤ k_) ∧ k_ ≠ gb101)) (HO0.out) (fun k_ hk => ⟨hk.1, hk.2⟩))))) (Reps.none _ _))); intro v103 w24 ho25 hb hg_ hnew_; clear hg_ hnew_; (first | rw [← Ny102.out] at ho25 | (simp only [Int.reduceToNat] at ho25; rw [← Ny102.out] at ho25)); have n0_ := Aside0.mk (Kd.V_elder' (by (with_reducible repeat (first | apply Kd.V_alloc | apply Kd.V_drewN | apply Kd.V_drew)); exact HO0.out) (Kd.N_base ho25) hb); have n1_ := Aside0.mk (Kd.N_lower ho25 (below_size (by repeat (first | (with_reducible first | exact HB.out | apply below_alloc | apply pw_below_drewN | apply below_drew1 | refine below_set ?_ GE101.out) | exact HB.out)))); have n2_ := Aside0.mk (blk_below (g := gb101) (o := .cells #[.int .i64 a1_0, .int .i64 a1_1] 23 (0, 0)) (by (with_reducible repeat (first | refine blk_drewN ?_ _ | refine blk_drew ?_ | refine blk_alloc ?_ _)); exact BK101.out) hb); have n3_ := Aside0.mk (below_step (by repeat (first | (with_reducible first | exact HB.out | apply below_alloc | apply pw_below_drewN | apply below_drew1 | refine below_set ?_ GE101.out) | exact HB.out)) hb); clear HO0; clear BK101; clear HB; have HO0 := n0_; have HO104 := n1_; have BK101 := n2_; have HB := n3_; clear n0_ n1_ n2_ n3_; clear hb ho25; obtain ⟨Ao26, co26, eo26⟩ := Kd.N_slice HO104.out; subst eo26) | ((with_reducible refine gate_callee (f := 94) rfl ?_); refine goesL_ (some 9) rfl rfl Try.func94 (by kernel_rfl) rfl #[.slice Ao26 y102.length co26] rfl (by (try simp only [List.map_toArray, List.map_cons, List.map_nil]); first | done | rfl | (simp only [List.length_drop, List.length_take]; rfl)) ?_; (with_reducible refine (plane_checkHulls.calls _ _ y102 t105 _ ?side1 ?side2 A3.out).mono ?_); (case side1 => repeat (first | exact (Kd.N_reads' HO104.out).2.2 | (with_reducible refine Kd.C_alloc ?_ _) | (with_reducible refine Kd.C_drewN ?_ _) | (with_reducible refine Kd.C_drew ?_))); (case side2 => exact (Kd.N_reads' HO104.out).2.1); rintro e w27 ⟨rfl, hb⟩; refine ⟨_, rfl, ?_⟩; have n0_ := Aside0.mk (Kd.V_below (by (with_reducible repeat (first | apply Kd.V_alloc | apply Kd.V_drewN | apply Kd.V_drew)); exact HO0.out) hb); have n1_ := Aside0.mk (Kd.N_below (by (with_reducible repeat (first | apply Kd.N_alloc | apply Kd.N_drewN | apply Kd.N_drew)); exact HO104.out) hb); have n2_ := Aside0.mk (blk_below (g := gb101) (o := .cells #[.int .i64 a1_0, .int .i64 a1_1] 23 (0, 0)) (by (with_reducible repeat (first | refine blk_drewN ?_ _ | refine blk_drew ?_ | refine blk_alloc ?_ _)); exact BK101.out) hb); have n3_ := Aside0.mk (below_step (by repeat (first | (with_reducible first | exact HB.out | apply below_alloc | apply pw_below_drewN | apply below_drew1 | refine below_set ?_ GE101.out) | exact HB.out)) hb); clear HO0; clear HO104; clear BK101; clear HB; have HO0 := n0_; have HO104 := n1_; have BK101 := n2_; have HB := n3_; clear n0_ n1_ n2_ n3_; (try clear hb); (try clear hb2); (try clear hk); (try clear hi); have hcz28_0 : w27.cell? ⟨gb101, 0, none⟩ = some (.int .i64 a1_0) := (blk_cell BK101.out 0).trans rfl; have hcz28_1 : w27.cell? ⟨gb101, 1, none⟩ = some (.int .i64 a1_1) := (blk_cell BK101.out 1).trans rfl; have hfz28_0 := blk_frozen BK101.out 0; have hfz28_1 := blk_frozen BK101.out 1) | ((with_reducible refine gate_dst (N := 14) rfl ?_); refine Kd.R_lit k23 _ 23 ?hg (N := 14) ?hd (xs := ([(⟨a1_0, a1_1⟩ : S23)] : List (S23))) (inner := [.int .i64 a1_0, .int .i64 a1_1]) (ok := fun _ => True) (okp := fun _ => True) ?hr ?hp (fun _ hk => hk) trivial (Below.refl _ _) (Nat.le_refl _) (by simp) ?_; (case hd => rfl); (case hg => rfl); (case hr => first | (go_simp; done) | (go_simp; rfl)); (case hp => exact (Reps.c2 (show Kd.M k23 _ _ _ (⟨a1_0, a1_1⟩ : S23) [.int .i64 a1_0, .int .i64 a1_1] from (k23_mkM _ _ _ (⟨a1_0, a1_1⟩ : S23) )) (Reps.none _ _))); intro v107 w29 ho30 hb hg_ hnew_; clear hg_ hnew_; (first | rw [← Ny106.out] at ho30 | (simp only [Int.reduceToNat] at ho30; rw [← Ny106.out] at ho30)); have n0_ := Aside0.mk (Kd.V_elder' (by (with_reducible repeat (first | apply Kd.V_alloc | apply Kd.V_drewN | apply Kd.V_drew)); exact HO0.out) (Kd.R_base ho30) hb); have n1_ := Aside0.mk (Kd.N_elder' (by (with_reducible repeat (first | apply Kd.N_alloc | apply Kd.N_drewN | apply Kd.N_drew)); exact HO104.out) (Kd.R_base ho30) hb); have n2_ := Aside0.mk (Kd.R_lower (Kd.R_newB (Kd.R_newM (M := fun k_ => (w.heap.size ≤ k_)) ho30 (below_size (by repeat (first | (with_reducible first | exact HB.out | apply below_alloc | apply pw_below_drewN | apply below_drew1 | refine below_set ?_ GE101.out) | exact HB.out))) (fun k_ h_ => h_)) (g := gb101) (o := .cells #[.int .i64 a1_0, .int .i64 a1_1] 23 (0, 0)) (by (with_reducible repeat (first | refine blk_drewN ?_ _ | refine blk_drew ?_ | refine blk_alloc ?_ _)); exact BK101.out)) (below_size (by repeat (first | (with_reducible first | exact HB.out | apply below_alloc | apply pw_below_drewN | apply below_drew1 | refine below_set ?_ GE101.out) | exact HB.out)))); have n3_ := Aside0.mk (blk_below (g := gb101) (o := .cells #[.int .i64 a1_0, .int .i64 a1_1] 23 (0, 0)) (by (with_reducible repeat (first | refine blk_drewN ?_ _ | refine blk_drew ?_ | refine blk_alloc ?_ _)); exact BK101.out) hb); have n4_ := Aside0.mk (below_step (by repeat (first | (with_reducible first | exact HB.out | apply below_alloc | apply pw_below_drewN | apply below_drew1 | refine below_set ?_ GE101.out) | exact HB.out)) hb); clear HO0; clear HO104; clear BK101; clear HB; have HO0 := n0_; have HO104 := n1_; have HO108 := n2_; have BK101 := n3_; have HB := n4_; clear n0_ n1_ n2_ n3_ n4_; clear hb ho30; obtain ⟨Ao31, co31, eo31⟩ := Kd.R_slice HO108.out; subst eo31) | ((with_reducible refine gate_callee (f := 66) rfl ?_); refine goesL_ (some 15) rfl rfl Try.func66 (by kernel_rfl) rfl #[.slice Ao31 y106.length co31] rfl (by (try simp only [List.map_toArray, List.map_cons, List.map_nil]); first | done | rfl | (simp only [List.length_drop, List.length_take]; rfl)) ?_; (with_reducible refine (plane_valid.calls k _ _ y106 false _ ?side1 ?side2 A5.out).mono ?_); (case side1 => repeat (first | exact (Kd.R_reads' HO108.out).2.2 | (with_reducible refine Kd.C_alloc ?_ _) | (with_reducible refine Kd.C_drewN ?_ _) | (with_reducible refine Kd.C_drew ?_))); (case side2 => exact (Kd.R_reads' HO108.out).2.1); rintro e w32 ⟨rfl, hb⟩; refine ⟨_, rfl, ?_⟩; have n0_ := Aside0.mk (Kd.V_below (by (with_reducible repeat (first | apply Kd.V_alloc | apply Kd.V_drewN | apply Kd.V_drew)); exact HO0.out) hb); have n1_ := Aside0.mk (Kd.N_below (by (with_reducible repeat (first | apply Kd.N_alloc | apply Kd.N_drewN | apply Kd.N_drew)); exact HO104.out) hb); have n2_ := Aside0.mk (Kd.R_below (by (with_reducible repeat (first | apply Kd.R_alloc | apply Kd.R_drewN | apply Kd.R_drew)); exact HO108.out) hb); have n3_ := Aside0.mk (blk_below (g := gb101) (o := .cells #[.int .i64 a1_0, .int .i64 a1_1] 23 (0, 0)) (by (with_reducible repeat (first | refine blk_drewN ?_ _ | refine blk_drew ?_ | refine blk_alloc ?_ _)); exact BK101.out) hb); have n4_ := Aside0.mk (below_step (by repeat (first | (with_reducible first | exact HB.out | apply below_alloc | apply pw_below_drewN | apply below_drew1 | refine below_set ?_ GE101.out) | exact HB.out)) hb); clear HO0; clear HO104; clear HO108; clear BK101; clear HB; have HO0 := n0_; have HO104 := n1_; have HO108 := n2_; have BK101 := n3_; have HB := n4_; clear n0_ n1_ n2_ n3_ n4_; (try clear hb); (try clear hb2); (try clear hk); (try clear hi)))
      go_ret2
      exact ⟨by first | rfl | (simp [errW_none, errW_some] <;> rfl) | (simp [*, errW_none, errW_some] <;> rfl), by repeat (first | (with_reducible first | exact HB.out | apply below_alloc | apply pw_below_drewN | apply below_drew1 | refine below_set ?_ GE101.out) | exact HB.out)⟩
  · rw [if_neg c4] at H
    have c4b0 : (t105 == 0) = false := beq_eq_false_iff_ne.mpr c4
    have c4b1 : (t105 != 0) = true := bne_iff_ne.mpr c4
    simp only [Option.some.injEq, Prod.mk.injEq] at H
    obtain ⟨rfl, rfl⟩ := H
    go_enter Try.func49, Try.ntmps49
    go_wp2_with (first | ((with_reducible refine gate_dst (N := 3) rfl ?_); refine box_event ?hg (N := 3) ?hd (cs := #[.int .i64 a1_0, .int .i64 a1_1]) (t := 23) ?hr ?_; (case hd => rfl); (case hg => rfl); (case hr => first | (go_simp; done) | (go_simp; rfl)); intro gb101 hg w33 hbox hb; have n0_ := Aside0.mk (Kd.V_below (Kd.V_elderB (by (with_reducible repeat (first | apply Kd.V_alloc | apply Kd.V_drewN | apply Kd.V_drew)); exact HO0.out) gb101 (Nat.le_of_eq hg.symm)) hb); have n1_ := Aside0.mk (below_step (by repeat (first | (with_reducible first | exact HB.out | apply below_alloc | apply pw_below_drewN | apply below_drew1) | exact HB.out)) hb); have n2_ := Aside0.mk (hbox); have n3_ := Aside0.mk ((by rw [hg]; exact (below_size (by repeat (first | (with_reducible first | exact HB.out | apply below_alloc | apply pw_below_drewN | apply below_drew1) | exact HB.out))) : w.heap.size ≤ gb101)); have n4_ := Aside0.mk ((by rw [hg]; exact (below_size (by repeat (first | (with_reducible first | exact HB.out | apply below_alloc | apply pw_below_drewN | apply below_drew1) | exact HB.out))) : w.heap.size ≤ gb101)); clear HO0; clear HB; have HO0 := n0_; have HB := n1_; have BK101 := n2_; have GW101 := n3_; have GE101 := n4_; clear n0_ n1_ n2_ n3_ n4_; clear hb hbox hg) | ((with_reducible refine gate_dst (N := 8) rfl ?_); refine Kd.N_lit (Kd.slice 23 k23) _ 53 ?hg (N' := 8) ?hd (xs := ([l0] : List (List (S23)))) (inner := [.slice A0 l0.length c0]) (ok := (fun k_ => (P0_ k_ ∨ w.heap.size ≤ k_) ∧ k_ ≠ gb101)) (okp := (fun k_ => (P0_ k_ ∨ w.heap.size ≤ k_) ∧ k_ ≠ gb101)) ?hr ?hp (fun _ hk => hk) ((show ∀ k_, w33.heap.size ≤ k_ → (fun k_ => (P0_ k_ ∨ w.heap.size ≤ k_) ∧ k_ ≠ gb101) k_ from fun k_ hk => ⟨(.inr (Nat.le_trans (below_size (by repeat (first | (with_reducible first | exact HB.out | apply below_alloc | apply pw_below_drewN | apply below_drew1 | refine below_set ?_ GE101.out) | exact HB.out))) hk)), Kd.freshB (g := gb101) (o := .cells #[.int .i64 a1_0, .int .i64 a1_1] 23 (0, 0)) (by (with_reducible repeat (first | refine blk_drewN ?_ _ | refine blk_drew ?_ | refine blk_alloc ?_ _)); exact BK101.out) k_ hk⟩) _ (Nat.le_refl _)) (Below.refl _ _) (Nat.le_refl _) (by simp) ?_; (case hd => rfl); (case hg => rfl); (case hr => first | (go_simp; done) | (go_simp; rfl)); (case hp => exact (Reps.one (show Kd.FK (Kd.slice 23 k23) _ _ l0 [.slice A0 l0.length c0] from (Kd.FK_slice_mk (Kd.V_reads' (Kd.V_mono (ok' := (fun k_ => (P0_ k_ ∨ w.heap.size ≤ k_) ∧ k_ ≠ gb101)) (HO0.out) (fun k_ hk => ⟨hk.1, hk.2⟩))).2.1 (Kd.V_F (Kd.V_mono (ok' := (fun k_ => (P0_ k_ ∨ w.heap.size ≤ k_) ∧ k_ ≠ gb101)) (HO0.out) (fun k_ hk => ⟨hk.1, hk.2⟩))))) (Reps.none _ _))); intro v103 w34 ho35 hb hg_ hnew_; clear hg_ hnew_; (first | rw [← Ny102.out] at ho35 | (simp only [Int.reduceToNat] at ho35; rw [← Ny102.out] at ho35)); have n0_ := Aside0.mk (Kd.V_elder' (by (with_reducible repeat (first | apply Kd.V_alloc | apply Kd.V_drewN | apply Kd.V_drew)); exact HO0.out) (Kd.N_base ho35) hb); have n1_ := Aside0.mk (Kd.N_lower ho35 (below_size (by repeat (first | (with_reducible first | exact HB.out | apply below_alloc | apply pw_below_drewN | apply below_drew1 | refine below_set ?_ GE101.out) | exact HB.out)))); have n2_ := Aside0.mk (blk_below (g := gb101) (o := .cells #[.int .i64 a1_0, .int .i64 a1_1] 23 (0, 0)) (by (with_reducible repeat (first | refine blk_drewN ?_ _ | refine blk_drew ?_ | refine blk_alloc ?_ _)); exact BK101.out) hb); have n3_ := Aside0.mk (below_step (by repeat (first | (with_reducible first | exact HB.out | apply below_alloc | apply pw_below_drewN | apply below_drew1 | refine below_set ?_ GE101.out) | exact HB.out)) hb); clear HO0; clear BK101; clear HB; have HO0 := n0_; have HO104 := n1_; have BK101 := n2_; have HB := n3_; clear n0_ n1_ n2_ n3_; clear hb ho35; obtain ⟨Ao36, co36, eo36⟩ := Kd.N_slice HO104.out; subst eo36) | ((with_reducible refine gate_callee (f := 94) rfl ?_); refine goesL_ (some 9) rfl rfl Try.func94 (by kernel_rfl) rfl #[.slice Ao36 y102.length co36] rfl (by (try simp only [List.map_toArray, List.map_cons, List.map_nil]); first | done | rfl | (simp only [List.length_drop, List.length_take]; rfl)) ?_; (with_reducible refine (plane_checkHulls.calls _ _ y102 t105 _ ?side1 ?side2 A3.out).mono ?_); (case side1 => repeat (first | exact (Kd.N_reads' HO104.out).2.2 | (with_reducible refine Kd.C_alloc ?_ _) | (with_reducible refine Kd.C_drewN ?_ _) | (with_reducible refine Kd.C_drew ?_))); (case side2 => exact (Kd.N_reads' HO104.out).2.1); rintro e w37 ⟨rfl, hb⟩; refine ⟨_, rfl, ?_⟩; have n0_ := Aside0.mk (Kd.V_below (by (with_reducible repeat (first | apply Kd.V_alloc | apply Kd.V_drewN | apply Kd.V_drew)); exact HO0.out) hb); have n1_ := Aside0.mk (Kd.N_below (by (with_reducible repeat (first | apply Kd.N_alloc | apply Kd.N_drewN | apply Kd.N_drew)); exact HO104.out) hb); have n2_ := Aside0.mk (blk_below (g := gb101) (o := .cells #[.int .i64 a1_0, .int .i64 a1_1] 23 (0, 0)) (by (with_reducible repeat (first | refine blk_drewN ?_ _ | refine blk_drew ?_ | refine blk_alloc ?_ _)); exact BK101.out) hb); have n3_ := Aside0.mk (below_step (by repeat (first | (with_reducible first | exact HB.out | apply below_alloc | apply pw_below_drewN | apply below_drew1 | refine below_set ?_ GE101.out) | exact HB.out)) hb); clear HO0; clear HO104; clear BK101; clear HB; have HO0 := n0_; have HO104 := n1_; have BK101 := n2_; have HB := n3_; clear n0_ n1_ n2_ n3_; (try clear hb); (try clear hb2); (try clear hk); (try clear hi)))
    go_ret2
    exact ⟨by first | rfl | (simp [errW_none, errW_some] <;> rfl) | (simp [*, errW_none, errW_some] <;> rfl), by repeat (first | (with_reducible first | exact HB.out | apply below_alloc | apply pw_below_drewN | apply below_drew1 | refine below_set ?_ GE101.out) | exact HB.out)⟩
end Go.Proofs.Ytegdcnjjelgpjaa.P
namespace Go.Proofs.Ytegdcnjjelgpjaa.P
open Go.RowKit Go.Proofs.YtegdcnjjelgpjaaW.PrintWords Go.Proofs.YtegdcnjjelgpjaaW.PrintLast Go.Proofs.YtegdcnjjelgpjaaW.PrintMore
attribute [local go_sem] max2_int min2_int max_two min_two max_three min_three max_four min_four   -- for this text's walks alone
set_option linter.unusedVariables false
set_option linter.unusedSimpArgs false
def plane_Meet.f (l0 : List (S23)) (l1 : List (S23)) : Option (Bool × Int) := (plane_checkHulls.f (([l0, l1] : List (List (S23))))).bind fun t104 => (if t104 = 0 then ((plane_apart.f l0 l1).bind fun t105 => (some (!t105, 0))) else (some (false, t104)))
set_option maxHeartbeats 8000000 in
set_option maxRecDepth 100000 in
theorem plane_Meet.calls (P0_ : Nat → Prop) (A0 : Option Addr) (c0 : Nat) (l0 : List (S23)) (P1_ : Nat → Prop) (A1 : Option Addr) (c1 : Nat) (l1 : List (S23)) (r1 : Bool) (r2 : Int) (w : World) (hs0 : Kd.V k23 23 w w.heap.size (fun k_ => P0_ k_) (.slice A0 l0.length c0) l0) (hs1 : Kd.V k23 23 w w.heap.size (fun k_ => P1_ k_) (.slice A1 l1.length c1) l1) (h : plane_Meet.f l0 l1 = some (r1, r2)) :
    Calls Try.prog 58 #[.slice A0 l0.length c0, .slice A1 l1.length c1] w fun e w' => e = .returned (.tuple #[.bool r1, .int .i64 r2]) ∧ Below w.heap.size w w' := by
  have HO0 := Aside0.mk (show Kd.V k23 23 w w.heap.size (fun k_ => ((P0_ k_ ∨ P1_ k_) ∨ w.heap.size ≤ k_)) (.slice A0 l0.length c0) l0 from Kd.V_mono hs0 (fun k_ hk => .inl (.inl hk)))
  have HO1 := Aside0.mk (show Kd.V k23 23 w w.heap.size (fun k_ => ((P0_ k_ ∨ P1_ k_) ∨ w.heap.size ≤ k_)) (.slice A1 l1.length c1) l1 from Kd.V_mono hs1 (fun k_ hk => .inl (.inr hk)))
  have HB := Aside0.mk (Below.refl w.heap.size w)
  have H : ((plane_checkHulls.f (([l0, l1] : List (List (S23))))).bind fun t104 => (if t104 = 0 then ((plane_apart.f l0 l1).bind fun t105 => (some (!t105, 0))) else (some (false, t104)))) = some (r1, r2) := h
  clear h
  obtain ⟨y101, hy101⟩ : ∃ y_ : List (List (S23)), y_ = (([l0, l1] : List (List (S23)))) := ⟨_, rfl⟩
  replace H : ((plane_checkHulls.f y101).bind fun t104 => (if t104 = 0 then ((plane_apart.f l0 l1).bind fun t105 => (some (!t105, 0))) else (some (false, t104)))) = some (r1, r2) := by first | (rw [hy101]; with_reducible exact H) | (have H2_ := (Option.bind_some _ _).symm.trans H; rw [hy101]; with_reducible exact H2_) | (have H2_ := (Option.bind_some _ _).symm.trans H; with_reducible exact H2_) | with_reducible exact H | (rw [hy101]; exact H) | exact H
  have Ny101 := Aside0.mk hy101
  clear hy101
  replace H := Option.bind_eq_some_iff.mp H
  obtain ⟨t104, A30, H⟩ := H
  replace H : (if t104 = 0 then ((plane_apart.f l0 l1).bind fun t105 => (some (!t105, 0))) else (some (false, t104))) = some (r1, r2) := H
  have A3 := Aside0.mk A30
  clear A30
  by_cases c4 : t104 = 0
  · rw [if_pos c4] at H
    have c4b0 : (t104 == 0) = true := beq_iff_eq.mpr c4
    have c4b1 : (t104 != 0) = false := bne_eq_false_iff_eq.mpr c4
    clear c4
    replace H := Option.bind_eq_some_iff.mp H
    obtain ⟨t105, A50, H⟩ := H
    replace H : (some (!t105, 0)) = some (r1, r2) := H
    have A5 := Aside0.mk A50
    clear A50
    simp only [Option.some.injEq, Prod.mk.injEq] at H
    obtain ⟨rfl, rfl⟩ := H
    go_enter Try.func58, Try.ntmps58
    go_wp2_with (first | ((with_reducible refine gate_dst (N := 9) rfl ?_); refine Kd.N_lit (Kd.slice 23 k23) _ 53 ?hg (N' := 9) ?hd (xs := ([l0, l1] : List (List (S23)))) (inner := [.slice A0 l0.length c0, .slice A1 l1.length c1]) (ok := (fun k_ => ((P0_ k_ ∨ P1_ k_) ∨ w.heap.size ≤ k_))) (okp := (fun k_ => ((P0_ k_ ∨ P1_ k_) ∨ w.heap.size ≤ k_))) ?hr ?hp (fun _ hk => hk) ((show ∀ k_, w.heap.size ≤ k_ → (fun k_ => ((P0_ k_ ∨ P1_ k_) ∨ w.heap.size ≤ k_)) k_ from fun k_ hk => (.inr (Nat.le_trans (below_size (by repeat (first | (with_reducible first | exact HB.out | apply below_alloc | apply pw_below_drewN | apply below_drew1) | exact HB.out))) hk))) _ (Nat.le_refl _)) (Below.refl _ _) (Nat.le_refl _) (by simp) ?_; (case hd => rfl); (case hg => rfl); (case hr => first | (go_simp; done) | (go_simp; rfl)); (case hp => exact (Reps.one (show Kd.FK (Kd.slice 23 k23) _ _ l0 [.slice A0 l0.length c0] from (Kd.FK_slice_mk (Kd.V_reads' (Kd.V_mono (ok' := (fun k_ => ((P0_ k_ ∨ P1_ k_) ∨ w.heap.size ≤ k_))) (HO0.out) (fun k_ hk => hk))).2.1 (Kd.V_F (Kd.V_mono (ok' := (fun k_ => ((P0_ k_ ∨ P1_ k_) ∨ w.heap.size ≤ k_))) (HO0.out) (fun k_ hk => hk))))) (Reps.one (show Kd.FK (Kd.slice 23 k23) _ _ l1 [.slice A1 l1.length c1] from (Kd.FK_slice_mk (Kd.V_reads' (Kd.V_mono (ok' := (fun k_ => ((P0_ k_ ∨ P1_ k_) ∨ w.heap.size ≤ k_))) (HO1.out) (fun k_ hk => hk))).2.1 (Kd.V_F (Kd.V_mono (ok' := (fun k_ => ((P0_ k_ ∨ P1_ k_) ∨ w.heap.size ≤ k_))) (HO1.out) (fun k_ hk => hk))))) (Reps.none _ _)))); intro v102 w6 ho7 hb hg_ hnew_; clear hg_ hnew_; (first | rw [← Ny101.out] at ho7 | (simp only [Int.reduceToNat] at ho7; rw [← Ny101.out] at ho7)); have n0_ := Aside0.mk (Kd.V_elder' (by (with_reducible repeat (first | apply Kd.V_alloc | apply Kd.V_drewN | apply Kd.V_drew)); exact HO0.out) (Kd.N_base ho7) hb); have n1_ := Aside0.mk (Kd.V_elder' (by (with_reducible repeat (first | apply Kd.V_alloc | apply Kd.V_drewN | apply Kd.V_drew)); exact HO1.out) (Kd.N_base ho7) hb); have n2_ := Aside0.mk (Kd.N_lower ho7 (below_size (by repeat (first | (with_reducible first | exact HB.out | apply below_alloc | apply pw_below_drewN | apply below_drew1) | exact HB.out)))); have n3_ := Aside0.mk (below_step (by repeat (first | (with_reducible first | exact HB.out | apply below_alloc | apply pw_below_drewN | apply below_drew1) | exact HB.out)) hb); clear HO0; clear HO1; clear HB; have HO0 := n0_; have HO1 := n1_; have HO103 := n2_; have HB := n3_; clear n0_ n1_ n2_ n3_; clear hb ho7; obtain ⟨Ao8, co8, eo8⟩ := Kd.N_slice HO103.out; subst eo8) | ((with_reducible refine gate_callee (f := 94) rfl ?_); refine goesL_ (some 10) rfl rfl Try.func94 (by kernel_rfl) rfl #[.slice Ao8 y101.length co8] rfl (by (try simp only [List.map_toArray, List.map_cons, List.map_nil]); first | done | rfl | (simp only [List.length_drop, List.length_take]; rfl)) ?_; (with_reducible refine (plane_checkHulls.calls _ _ y101 t104 _ ?side1 ?side2 A3.out).mono ?_); (case side1 => repeat (first | exact (Kd.N_reads' HO103.out).2.2 | (with_reducible refine Kd.C_alloc ?_ _) | (with_reducible refine Kd.C_drewN ?_ _) | (with_reducible refine Kd.C_drew ?_))); (case side2 => exact (Kd.N_reads' HO103.out).2.1); rintro e w9 ⟨rfl, hb⟩; refine ⟨_, rfl, ?_⟩; have n0_ := Aside0.mk (Kd.V_below (by (with_reducible repeat (first | apply Kd.V_alloc | apply Kd.V_drewN | apply Kd.V_drew)); exact HO0.out) hb); have n1_ := Aside0.mk (Kd.V_below (by (with_reducible repeat (first | apply Kd.V_alloc | apply Kd.V_drewN | apply Kd.V_drew)); exact HO1.out) hb); have n2_ := Aside0.mk (Kd.N_below (by (with_reducible repeat (first | apply Kd.N_alloc | apply Kd.N_drewN | apply Kd.N_drew)); exact HO103.out) hb); have n3_ := Aside0.mk (below_step (by repeat (first | (with_reducible first | exact HB.out | apply below_alloc | apply pw_below_drewN | apply below_drew1) | exact HB.out)) hb); clear HO0; clear HO1; clear HO103; clear HB; have HO0 := n0_; have HO1 := n1_; have HO103 := n2_; have HB := n3_; clear n0_ n1_ n2_ n3_; (try clear hb); (try clear hb2); (try clear hk); (try clear hi)) | ((with_reducible refine gate_callee (f := 95) rfl ?_); refine goesL_ (some 16) rfl rfl Try.func95 (by kernel_rfl) rfl #[.slice A0 l0.length c0, .slice A1 l1.length c1] rfl (by (try simp only [List.map_toArray, List.map_cons, List.map_nil]); first | done | rfl | (simp only [List.length_drop, List.length_take]; rfl)) ?_; (with_reducible refine (plane_apart.calls _ _ l0 _ _ l1 t105 _ ?side1 ?side2 ?side3 ?side4 A5.out).mono ?_); (case side1 => repeat (first | exact (Kd.V_reads' HO0.out).2.2 | (with_reducible refine Kd.C_alloc ?_ _) | (with_reducible refine Kd.C_drewN ?_ _) | (with_reducible refine Kd.C_drew ?_))); (case side2 => exact (Kd.V_reads' HO0.out).2.1); (case side3 => repeat (first | exact (Kd.V_reads' HO1.out).2.2 | (with_reducible refine Kd.C_alloc ?_ _) | (with_reducible refine Kd.C_drewN ?_ _) | (with_reducible refine Kd.C_drew ?_))); (case side4 => exact (Kd.V_reads' HO1.out).2.1); rintro e w10 ⟨rfl, hb⟩; refine ⟨_, rfl, ?_⟩; have n0_ := Aside0.mk (Kd.V_below (by (with_reducible repeat (first | apply Kd.V_alloc | apply Kd.V_drewN | apply Kd.V_drew)); exact HO0.out) hb); have n1_ := Aside0.mk (Kd.V_below (by (with_reducible repeat (first | apply Kd.V_alloc | apply Kd.V_drewN | apply Kd.V_drew)); exact HO1.out) hb); have n2_ := Aside0.mk (Kd.N_below (by (with_reducible repeat (first | apply Kd.N_alloc | apply Kd.N_drewN | apply Kd.N_drew)); exact HO103.out) hb); have n3_ := Aside0.mk (below_step (by repeat (first | (with_reducible first | exact HB.out | apply below_alloc | apply pw_below_drewN | apply below_drew1) | exact HB.out)) hb); clear HO0; clear HO1; clear HO103; clear HB; have HO0 := n0_; have HO1 := n1_; have HO103 := n2_; have HB := n3_; clear n0_ n1_ n2_ n3_; (try clear hb); (try clear hb2); (try clear hk); (try clear hi)))
    go_ret2
    exact ⟨by first | rfl | (simp [errW_none, errW_some] <;> rfl) | (simp [*, errW_none, errW_some] <;> rfl), by repeat (first | (with_reducible first | exact HB.out | apply below_alloc | apply pw_below_drewN | apply below_drew1) | exact HB.out)⟩
  · rw [if_neg c4] at H
    have c4b0 : (t104 == 0) = false := beq_eq_false_iff_ne.mpr c4
    have c4b1 : (t104 != 0) = true := bne_iff_ne.mpr c4
    simp only [Option.some.injEq, Prod.mk.injEq] at H
    obtain ⟨rfl, rfl⟩ := H
    go_enter Try.func58, Try.ntmps58
    go_wp2_with (first | ((with_reducible refine gate_dst (N := 9) rfl ?_); refine Kd.N_lit (Kd.slice 23 k23) _ 53 ?hg (N' := 9) ?hd (xs := ([l0, l1] : List (List (S23)))) (inner := [.slice A0 l0.length c0, .slice A1 l1.length c1]) (ok := (fun k_ => ((P0_ k_ ∨ P1_ k_) ∨ w.heap.size ≤ k_))) (okp := (fun k_ => ((P0_ k_ ∨ P1_ k_) ∨ w.heap.size ≤ k_))) ?hr ?hp (fun _ hk => hk) ((show ∀ k_, w.heap.size ≤ k_ → (fun k_ => ((P0_ k_ ∨ P1_ k_) ∨ w.heap.size ≤ k_)) k_ from fun k_ hk => (.inr (Nat.le_trans (below_size (by repeat (first | (with_reducible first | exact HB.out | apply below_alloc | apply pw_below_drewN | apply below_drew1) | exact HB.out))) hk))) _ (Nat.le_refl _)) (Below.refl _ _) (Nat.le_refl _) (by simp) ?_; (case hd => rfl); (case hg => rfl); (case hr => first | (go_simp; done) | (go_simp; rfl)); (case hp => exact (Reps.one (show Kd.FK (Kd.slice 23 k23) _ _ l0 [.slice A0 l0.length c0] from (Kd.FK_slice_mk (Kd.V_reads' (Kd.V_mono (ok' := (fun k_ => ((P0_ k_ ∨ P1_ k_) ∨ w.heap.size ≤ k_))) (HO0.out) (fun k_ hk => hk))).2.1 (Kd.V_F (Kd.V_mono (ok' := (fun k_ => ((P0_ k_ ∨ P1_ k_) ∨ w.heap.size ≤ k_))) (HO0.out) (fun k_ hk => hk))))) (Reps.one (show Kd.FK (Kd.slice 23 k23) _ _ l1 [.slice A1 l1.length c1] from (Kd.FK_slice_mk (Kd.V_reads' (Kd.V_mono (ok' := (fun k_ => ((P0_ k_ ∨ P1_ k_) ∨ w.heap.size ≤ k_))) (HO1.out) (fun k_ hk => hk))).2.1 (Kd.V_F (Kd.V_mono (ok' := (fun k_ => ((P0_ k_ ∨ P1_ k_) ∨ w.heap.size ≤ k_))) (HO1.out) (fun k_ hk => hk))))) (Reps.none _ _)))); intro v102 w11 ho12 hb hg_ hnew_; clear hg_ hnew_; (first | rw [← Ny101.out] at ho12 | (simp only [Int.reduceToNat] at ho12; rw [← Ny101.out] at ho12)); have n0_ := Aside0.mk (Kd.V_elder' (by (with_reducible repeat (first | apply Kd.V_alloc | apply Kd.V_drewN | apply Kd.V_drew)); exact HO0.out) (Kd.N_base ho12) hb); have n1_ := Aside0.mk (Kd.V_elder' (by (with_reducible repeat (first | apply Kd.V_alloc | apply Kd.V_drewN | apply Kd.V_drew)); exact HO1.out) (Kd.N_base ho12) hb); have n2_ := Aside0.mk (Kd.N_lower ho12 (below_size (by repeat (first | (with_reducible first | exact HB.out | apply below_alloc | apply pw_below_drewN | apply below_drew1) | exact HB.out)))); have n3_ := Aside0.mk (below_step (by repeat (first | (with_reducible first | exact HB.out | apply below_alloc | apply pw_below_drewN | apply below_drew1) | exact HB.out)) hb); clear HO0; clear HO1; clear HB; have HO0 := n0_; have HO1 := n1_; have HO103 := n2_; have HB := n3_; clear n0_ n1_ n2_ n3_; clear hb ho12; obtain ⟨Ao13, co13, eo13⟩ := Kd.N_slice HO103.out; subst eo13) | ((with_reducible refine gate_callee (f := 94) rfl ?_); refine goesL_ (some 10) rfl rfl Try.func94 (by kernel_rfl) rfl #[.slice Ao13 y101.length co13] rfl (by (try simp only [List.map_toArray, List.map_cons, List.map_nil]); first | done | rfl | (simp only [List.length_drop, List.length_take]; rfl)) ?_; (with_reducible refine (plane_checkHulls.calls _ _ y101 t104 _ ?side1 ?side2 A3.out).mono ?_); (case side1 => repeat (first | exact (Kd.N_reads' HO103.out).2.2 | (with_reducible refine Kd.C_alloc ?_ _) | (with_reducible refine Kd.C_drewN ?_ _) | (with_reducible refine Kd.C_drew ?_))); (case side2 => exact (Kd.N_reads' HO103.out).2.1); rintro e w14 ⟨rfl, hb⟩; refine ⟨_, rfl, ?_⟩; have n0_ := Aside0.mk (Kd.V_below (by (with_reducible repeat (first | apply Kd.V_alloc | apply Kd.V_drewN | apply Kd.V_drew)); exact HO0.out) hb); have n1_ := Aside0.mk (Kd.V_below (by (with_reducible repeat (first | apply Kd.V_alloc | apply Kd.V_drewN | apply Kd.V_drew)); exact HO1.out) hb); have n2_ := Aside0.mk (Kd.N_below (by (with_reducible repeat (first | apply Kd.N_alloc | apply Kd.N_drewN | apply Kd.N_drew)); exact HO103.out) hb); have n3_ := Aside0.mk (below_step (by repeat (first | (with_reducible first | exact HB.out | apply below_alloc | apply pw_below_drewN | apply below_drew1) | exact HB.out)) hb); clear HO0; clear HO1; clear HO103; clear HB; have HO0 := n0_; have HO1 := n1_; have HO103 := n2_; have HB := n3_; clear n0_ n1_ n2_ n3_; (try clear hb); (try clear hb2); (try clear hk); (try clear hi)))
    go_ret2
    exact ⟨by first | rfl | (simp [errW_none, errW_some] <;> rfl) | (simp [*, errW_none, errW_some] <;> rfl), by repeat (first | (with_reducible first | exact HB.out | apply below_alloc | apply pw_below_drewN | apply below_drew1) | exact HB.out)⟩
end Go.Proofs.Ytegdcnjjelgpjaa.P
namespace Go.Proofs.Ytegdcnjjelgpjaa.P
open Go.RowKit Go.Shelf Go.Proofs.Ytegdcnjjelgpjaa.O Go.Proofs.YtegdcnjjelgpjaaW.PrintWords Go.Proofs.YtegdcnjjelgpjaaW.PrintLast Go.Proofs.YtegdcnjjelgpjaaW.PrintMore
attribute [local go_sem] Oper.semAt_some
set_option linter.unusedVariables false
set_option linter.unusedSimpArgs false
def four (t : Int) (p : S23) : List S23 := [⟨wrap64 (p.f0 + wrap64 (-t)), wrap64 (p.f1 + wrap64 (-t))⟩, ⟨wrap64 (p.f0 + wrap64 (-t)), wrap64 (p.f1 + t)⟩, ⟨wrap64 (p.f0 + t), wrap64 (p.f1 + wrap64 (-t))⟩, ⟨wrap64 (p.f0 + t), wrap64 (p.f1 + t)⟩]
def growL (l : List S23) (t : Int) : List S23 := l.flatMap (four t)
theorem growL_len (l : List S23) (t : Int) : (growL l t).length = 4 * l.length := by
  unfold growL
  induction l with
  | nil => rfl
  | cons x r ih => rw [List.flatMap_cons, List.length_append, ih]; simp [four]; omega
theorem growL_succ (l : List S23) (t : Int) (k : Nat) (h : k < l.length) : growL (l.take (k + 1)) t = growL (l.take k) t ++ four t l[k] := by
  unfold growL
  rw [List.take_succ_eq_append_getElem h, List.flatMap_append, List.flatMap_singleton]
def plane_grown.f (l0 : List (S23)) (a1 : Int) : Option ((List (S23))) := plane_corners.f (growL l0 a1)
theorem OutV.reads {w : World} {base : Nat} {v : Value} {l : List S23} (h : OutV w base v l) : ∃ A c, v = .slice A l.length c ∧ l.length ≤ c ∧ Kd.C k23 w A l.length l := Kd.R_reads (h.toR (ok := fun _ => True) (fun _ _ => trivial))
set_option maxRecDepth 100000 in
set_option maxHeartbeats 4000000 in
theorem plane_grown.calls (A0 : Option Addr) (c0 : Nat) (l0 : List (S23)) (a1 : Int) (r : List (S23)) (w : World) (hr0 : Kd.C k23 w A0 l0.length l0) (hc0 : l0.length ≤ c0) (h : plane_grown.f l0 a1 = some r) :
    Calls Try.prog 100 #[.slice A0 l0.length c0, .int .i64 a1] w fun e w' => ∃ v0_ : Value, e = .returned (v0_) ∧ Kd.R k23 23 w' w.heap.size (fun _ => True) v0_ r ∧ Below w.heap.size w w' := by
  have hu23 := Try.underlying23
  have hu126 := Try.underlying126
  have hm := Kd.C_max hr0
  have hlen : l0.length ≤ 262144 := by
    unfold plane_grown.f plane_corners.f at h
    split at h
    · rename_i g; have := g.2.1; rw [growL_len] at this; omega
    · cases h
  have HC := Aside0.mk h
  have HR := Aside0.mk hr0
  obtain ⟨n, hn⟩ : ∃ n, l0.length = n := ⟨_, rfl⟩
  have HN := Aside0.mk hn
  rw [hn] at hlen ⊢
  obtain ⟨nt, hnt⟩ : ∃ d, wrap64 (-a1) = d := ⟨_, rfl⟩
  have HNT := Aside0.mk hnt
  have w1 : IntKind.i64.wrap (-a1) = nt := by rw [i64_w]; exact hnt
  clear h hr0 hn hnt hm hc0
  refine (callsIn_wide (n := 0)).1 (callsIn_of_wp Try.func100 rfl trivial ?_ rfl)
  simp only [Try.ntmps100, List.size_toArray, List.length_cons, List.length_nil, Nat.reduceAdd, Nat.reduceSub, Array.replicate_succ, Array.replicate_zero, List.push_toArray, List.append_toArray, List.nil_append, List.cons_append]
  gi_wp2
  gi_loopw [5, 12] (fun v5 v12 wr => ∃ (k : Nat) (v : Value), k ≤ n ∧ v12 = .int .i64 k ∧ v = v5 ∧ Aside0 (OutV wr w.heap.size v (growL (l0.take k) a1)) ∧ Aside0 (Below w.heap.size w wr)) (fun _ v12 _ => n - (intOf v12).toNat)
  case atStart => exact ⟨0, _, Nat.zero_le _, rfl, rfl, ⟨.inl ⟨rfl, rfl⟩⟩, ⟨Below.refl _ _⟩⟩
  case round =>
    obtain ⟨k, v5, hk, rfl, rfl, HO, HB⟩ := hrel
    by_cases hlt : k < n
    · have hkl : k < l0.length := by rw [HN.out]; exact hlt
      obtain ⟨ad, rfl, hx0, hx1⟩ := at_T23 HR.out (k : Int) (by omega) (by omega)
      rw [rd23_get l0 k hkl, Int.toNat_natCast] at hx0 hx1
      replace hx0 := (HB.out.cell (World.block_lt_of_cell? w _ hx0)).trans hx0
      replace hx1 := (HB.out.cell (World.block_lt_of_cell? w _ hx1)).trans hx1
      have hsuc := growL_succ l0 a1 k hkl
      have hgl : (growL (l0.take k) a1).length ≤ 1048576 := by rw [growL_len, List.length_take]; omega
      obtain ⟨p, hp⟩ : ∃ p, l0[k] = p := ⟨_, rfl⟩
      rw [hp] at hx0 hx1 hsuc
      have HS := Aside0.mk hsuc
      obtain ⟨G, hG⟩ : ∃ G, growL (l0.take k) a1 = G := ⟨_, rfl⟩
      rw [hG] at HO HS hgl
      have HGL := Aside0.mk hgl
      obtain ⟨wq, hwq⟩ : ∃ wq, wr.alloc (.cells #[.int .i64 p.f0, .int .i64 p.f1] 23 (0, 0)) = wq := ⟨_, rfl⟩
      have hbq : Below wr.heap.size wr wq := by rw [← hwq]; exact (Below.refl _ _).alloc (Nat.le_refl _) _
      have kp : wq.heap[wr.heap.size]? = some (.cells #[.int .i64 p.f0, .int .i64 p.f1] 23 (0, 0)) := by rw [← hwq]; exact blk_new _ _
      have HO2 := Aside0.mk (HO.out.below hbq)
      have hne : ∀ q, v5.ownBlock = some q → q ≠ wr.heap.size := fun q hq => by have := (HO.out.lt q hq).1; omega
      have HNE := Aside0.mk hne
      have HB2 := Aside0.mk (HB.out.trans (hbq.mono HB.out.size))
      have KP := Aside0.mk kp
      clear hp hsuc hG hgl hne kp hbq
      gi_wp2
      gi_loopw [5, 33] (fun u5 v33 wz => ∃ (j : Nat) (v : Value), j ≤ 4 ∧ v33 = .int .i64 j ∧ v = u5 ∧ Aside0 (OutV wz w.heap.size v (G ++ (four a1 p).take j)) ∧ Aside0 (∀ q, v.ownBlock = some q → q ≠ wr.heap.size) ∧ Aside0 (wz.heap[wr.heap.size]? = some (.cells #[.int .i64 p.f0, .int .i64 p.f1] 23 (0, 0))) ∧ Aside0 (Below w.heap.size w wz)) (fun _ v33 _ => 4 - (intOf v33).toNat)
      case atStart => exact ⟨0, _, by omega, rfl, rfl, ⟨by simpa using HO2.out⟩, HNE, KP, HB2⟩
      case round =>
        clear hx0 hx1 hwq
        rename World => wz
        obtain ⟨j, v, hj, rfl, rfl, HO3, HNE3, KP3, HB3⟩ := hrel
        by_cases hj4 : j < 4
        · obtain ⟨ex, ey, hcase⟩ : ∃ ex ey : Int, (j = 0 ∧ ex = nt ∧ ey = nt) ∨ (j = 1 ∧ ex = nt ∧ ey = a1) ∨ (j = 2 ∧ ex = a1 ∧ ey = nt) ∨ (j = 3 ∧ ex = a1 ∧ ey = a1) := by
            rcases (show j = 0 ∨ j = 1 ∨ j = 2 ∨ j = 3 by omega) with e | e | e | e
            · exact ⟨nt, nt, .inl ⟨e, rfl, rfl⟩⟩
            · exact ⟨nt, a1, .inr (.inl ⟨e, rfl, rfl⟩)⟩
            · exact ⟨a1, nt, .inr (.inr (.inl ⟨e, rfl, rfl⟩))⟩
            · exact ⟨a1, a1, .inr (.inr (.inr ⟨e, rfl, rfl⟩))⟩
          have hidx : ∀ w, (Instr.index 127 (.agg #[.int .i64 nt, .int .i64 nt, .int .i64 nt, .int .i64 a1, .int .i64 a1, .int .i64 nt, .int .i64 a1, .int .i64 a1]) (.int .i64 (j : Int))).run Try.prog w = .ok (.agg #[.int .i64 ex, .int .i64 ey]) w := by
            rcases hcase with ⟨rfl, rfl, rfl⟩ | ⟨rfl, rfl, rfl⟩ | ⟨rfl, rfl, rfl⟩ | ⟨rfl, rfl, rfl⟩ <;> intro w <;> rfl
          obtain ⟨X, hX⟩ : ∃ d, wrap64 (p.f0 + ex) = d := ⟨_, rfl⟩
          obtain ⟨Y, hY⟩ : ∃ d, wrap64 (p.f1 + ey) = d := ⟨_, rfl⟩
          have hfour : (four a1 p).take (j + 1) = (four a1 p).take j ++ [⟨X, Y⟩] := by
            unfold four
            rw [HNT.out, ← hX, ← hY]
            rcases hcase with ⟨rfl, rfl, rfl⟩ | ⟨rfl, rfl, rfl⟩ | ⟨rfl, rfl, rfl⟩ | ⟨rfl, rfl, rfl⟩ <;> rfl
          have w5 : IntKind.i64.wrap (p.f0 + ex) = X := by rw [i64_w]; exact hX
          have w6 : IntKind.i64.wrap (p.f1 + ey) = Y := by rw [i64_w]; exact hY
          obtain ⟨wa, hwa⟩ : ∃ wa, wz.alloc (.cells #[.int .i64 ex, .int .i64 ey] 126 (0, 0)) = wa := ⟨_, rfl⟩
          have hba : Below wz.heap.size wz wa := by rw [← hwa]; exact (Below.refl _ _).alloc (Nat.le_refl _) _
          have kd : wa.heap[wz.heap.size]? = some (.cells #[.int .i64 ex, .int .i64 ey] 126 (0, 0)) := by rw [← hwa]; exact blk_new _ _
          have kpa := keep_below hba (blk_lt KP3.out) KP3.out
          have d0 : wa.cell? ⟨wz.heap.size, 0, none⟩ = some (.int .i64 ex) := (blk_cell kd 0).trans rfl
          have d1 : wa.cell? ⟨wz.heap.size, 1, none⟩ = some (.int .i64 ey) := (blk_cell kd 1).trans rfl
          have p0 : wa.cell? ⟨wr.heap.size, 0, none⟩ = some (.int .i64 p.f0) := (blk_cell kpa 0).trans rfl
          have p1 : wa.cell? ⟨wr.heap.size, 1, none⟩ = some (.int .i64 p.f1) := (blk_cell kpa 1).trans rfl
          have hbb : Below wz.heap.size wz (wa.alloc (.cells #[.int .i64 X, .int .i64 Y] 23 (0, 0))) := hba.trans ((Below.refl _ _).alloc hba.size _)
          have HO4 := Aside0.mk (HO3.out.below hbb)
          have HB4 := Aside0.mk (HB3.out.trans (hbb.mono HB3.out.size))
          have KP4 := Aside0.mk (keep_below hbb (blk_lt KP3.out) KP3.out)
          have KX := Aside0.mk (blk_new wa (.cells #[.int .i64 X, .int .i64 Y] 23 (0, 0)))
          have HLT : Aside0 (wr.heap.size < wa.heap.size) := ⟨blk_lt kpa⟩
          have HF := Aside0.mk hfour
          have HG4 : Aside0 ((G ++ (four a1 p).take j).length + 1 ≤ 8796093022208) := ⟨by rw [List.length_append, List.length_take]; have := HGL.out; omega⟩
          have HVL := Aside0.mk (fun q hq => (HO3.out.lt q hq).1)
          clear hcase hfour hba kd kpa hbb
          gi_wp2_with (gi_at_builtin; refine wpListIn_append_pt _ rfl _ _ rfl w.heap.size _ (G ++ (four a1 p).take j) rfl HO4.out wa.heap.size 1 ⟨X, Y⟩ rfl ((blk_cell KX.out 0).trans rfl) ((blk_cell KX.out 1).trans rfl) HG4.out HB4.out.size ?_)
          intro v' W2 ho3 hg3 hat3
          have ho3' : OutV W2 w.heap.size v' (G ++ (four a1 p).take (j + 1)) := by rw [HF.out, ← List.append_assoc]; simpa using ho3
          have hnr : ∀ q, v.ownBlock = some q → q ≠ wr.heap.size := HNE3.out
          have HO5 := Aside0.mk ho3'
          have HNE5 : Aside0 (∀ q, v'.ownBlock = some q → q ≠ wr.heap.size) := ⟨fun q hq => by
            rcases hat3 with e | e
            · rw [e] at hq; exact hnr q hq
            · rw [e] at hq; simp at hq; have := HLT.out; omega⟩
          have KP5 : Aside0 (W2.heap[wr.heap.size]? = some (.cells #[.int .i64 p.f0, .int .i64 p.f1] 23 (0, 0))) := ⟨blk_grown KP4.out hg3 fun e => hnr _ e.symm rfl⟩
          have HB5 : Aside0 (Below w.heap.size w W2) := ⟨HB4.out.grown hg3 HB4.out.size fun q hq => (HO4.out.lt q hq).2⟩
          have HJ1 : Aside0 (j + 1 ≤ 4 ∧ 4 - (j + 1) < 4 - j ∧ wrap64 ((j : Int) + 1) = ((j + 1 : Nat) : Int)) := ⟨by omega, by omega, by unfold wrap64; omega⟩
          clear hX hY w5 w6 ho3 ho3' hg3 hat3 hnr hidx d0 d1 p0 p1 hwa
          gi_wp2
          obtain ⟨i1, i2, i3⟩ := HJ1.out
          refine ⟨⟨j + 1, v', i1, by first | rw [i3] | rfl, rfl, HO5, HNE5, KP5, HB5⟩, ?_⟩
          try rw [i3]
          show 4 - (((j + 1 : Nat) : Int)).toNat < 4 - ((j : Nat) : Int).toNat
          rw [Int.toNat_natCast, Int.toNat_natCast]; exact i2
        · obtain rfl : j = 4 := by omega
          have hG2 : OutV wz w.heap.size v (growL (l0.take (k + 1)) a1) := by rw [HS.out]; exact HO3.out
          have HG2 := Aside0.mk hG2
          have HK1 : Aside0 (k + 1 ≤ n ∧ n - (k + 1) < n - k ∧ wrap64 ((k : Int) + 1) = ((k + 1 : Nat) : Int)) := ⟨by omega, by omega, by unfold wrap64; omega⟩
          clear hG2
          gi_wp2
          obtain ⟨i1, i2, i3⟩ := HK1.out
          refine ⟨⟨k + 1, v, i1, by first | rw [i3] | rfl, rfl, HG2, HB3⟩, ?_⟩
          try rw [i3]
          show n - (((k + 1 : Nat) : Int)).toNat < n - ((k : Nat) : Int).toNat
          rw [Int.toNat_natCast, Int.toNat_natCast]; exact i2
    · obtain rfl : k = n := by omega
      have ho := HO.out
      rw [List.take_of_length_le (by rw [HN.out]; exact Nat.le_refl _)] at ho
      obtain ⟨A, c, rfl, hle, hC⟩ := ho.reads
      have HCC := Aside0.mk (callsIn_w (n := 0) (plane_corners.calls A c (growL l0 a1) r wr hC hle HC.out))
      obtain ⟨m, hm⟩ : ∃ m, (growL l0 a1).length = m := ⟨_, rfl⟩
      rw [hm] at HCC ⊢
      clear ho hC hm hle
      gi_wp2
      refine ⟨trivial, rfl, HCC.out.mono ?_⟩
      rintro e W2 ⟨v, rfl, hR, hb2⟩
      have HR2 := Aside0.mk hR
      have HB2 := Aside0.mk hb2
      clear hR hb2
      gi_wp2
      go_ret
      exact ⟨v, rfl, Kd.R_lower HR2.out HB.out.size, HB.out.trans (HB2.out.mono HB.out.size)⟩
end Go.Proofs.Ytegdcnjjelgpjaa.P
namespace Go.Proofs.Ytegdcnjjelgpjaa.P
open Go.RowKit Go.Proofs.YtegdcnjjelgpjaaW.PrintWords Go.Proofs.YtegdcnjjelgpjaaW.PrintLast Go.Proofs.YtegdcnjjelgpjaaW.PrintMore
attribute [local go_sem] max2_int min2_int max_two min_two max_three min_three max_four min_four   -- for this text's walks alone
set_option linter.unusedVariables false
set_option linter.unusedSimpArgs false
def plane_Gap.l0 : Nat → List (S23) → List (S23) → Int → Int → Option (Int × Int)
  | 0, _, _, _, _ => none
  | k + 1, x0, x1, x7, x8 => if x7 < x8 then ((plane_grown.f x0 (wrap64 (Int.tdiv (wrap64 (x7 + x8)) 2))).bind fun t105 => ((plane_apart.f t105 x1).bind fun t108 => (if t108 = true then (plane_Gap.l0 k x0 x1 (wrap64 ((wrap64 (Int.tdiv (wrap64 (x7 + x8)) 2)) + 1)) x8) else (plane_Gap.l0 k x0 x1 x7 (wrap64 (Int.tdiv (wrap64 (x7 + x8)) 2)))))) else (some (x7, 0))
def plane_Gap.f (k : Nat) (l0 : List (S23)) (l1 : List (S23)) : Option (Int × Int) := (plane_checkHulls.f (([l0, l1] : List (List (S23))))).bind fun t104 => (if t104 = 0 then (plane_Gap.l0 k l0 l1 0 33554432) else (some (0, t104)))
theorem plane_Gap.mono_l : ∀ k, (∀ y0 y1 y2 y3, LeO (plane_Gap.l0 k y0 y1 y2 y3) (plane_Gap.l0 (k + 1) y0 y1 y2 y3))
  | 0 => fun _ _ _ _ r h => by simp [plane_Gap.l0] at h
  | k + 1 => by
    have ih0 := plane_Gap.mono_l k
    · intro y0 y1 y2 y3
      unfold plane_Gap.l0
      repeat' first
      | (with_reducible exact ih0 _ _ _ _)
      | (with_reducible exact LeO.refl _)
      | (with_reducible exact LeO.none _)
      | (with_reducible refine LeO.ite ?_ ?_)
      | (with_reducible refine LeO.bind ?_ (fun _ => ?_))
      | exact ih0 _ _ _ _
      | exact LeO.none _
      | refine LeO.ite ?_ ?_
      | refine LeO.bind ?_ (fun _ => ?_)
theorem plane_Gap.mono : ∀ a0 a1 k, LeO (plane_Gap.f k a0 a1) (plane_Gap.f (k + 1) a0 a1) := by
  intro a0 a1 k
  have ih0 := plane_Gap.mono_l k
  unfold plane_Gap.f
  repeat' first
      | (with_reducible exact ih0 _ _ _ _)
      | (with_reducible exact LeO.refl _)
      | (with_reducible exact LeO.none _)
      | (with_reducible refine LeO.ite ?_ ?_)
      | (with_reducible refine LeO.bind ?_ (fun _ => ?_))
      | exact ih0 _ _ _ _
      | exact LeO.none _
      | refine LeO.ite ?_ ?_
      | refine LeO.bind ?_ (fun _ => ?_)
set_option maxHeartbeats 8000000 in
set_option maxRecDepth 100000 in
theorem plane_Gap.calls (k : Nat) (P0_ : Nat → Prop) (A0 : Option Addr) (c0 : Nat) (l0 : List (S23)) (P1_ : Nat → Prop) (A1 : Option Addr) (c1 : Nat) (l1 : List (S23)) (r1 : Int) (r2 : Int) (w : World) (hs0 : Kd.V k23 23 w w.heap.size (fun k_ => P0_ k_) (.slice A0 l0.length c0) l0) (hs1 : Kd.V k23 23 w w.heap.size (fun k_ => P1_ k_) (.slice A1 l1.length c1) l1) (h : plane_Gap.f k l0 l1 = some (r1, r2)) :
    Calls Try.prog 60 #[.slice A0 l0.length c0, .slice A1 l1.length c1] w fun e w' => e = .returned (.tuple #[.int .i64 r1, .int .i64 r2]) ∧ Below w.heap.size w w' := by
  have HO0 := Aside0.mk (show Kd.V k23 23 w w.heap.size (fun k_ => ((P0_ k_ ∨ P1_ k_) ∨ w.heap.size ≤ k_)) (.slice A0 l0.length c0) l0 from Kd.V_mono hs0 (fun k_ hk => .inl (.inl hk)))
  have HO1 := Aside0.mk (show Kd.V k23 23 w w.heap.size (fun k_ => ((P0_ k_ ∨ P1_ k_) ∨ w.heap.size ≤ k_)) (.slice A1 l1.length c1) l1 from Kd.V_mono hs1 (fun k_ hk => .inl (.inr hk)))
  have HB := Aside0.mk (Below.refl w.heap.size w)
  have H : ((plane_checkHulls.f (([l0, l1] : List (List (S23))))).bind fun t104 => (if t104 = 0 then (plane_Gap.l0 k l0 l1 0 33554432) else (some (0, t104)))) = some (r1, r2) := h
  clear h
  obtain ⟨y101, hy101⟩ : ∃ y_ : List (List (S23)), y_ = (([l0, l1] : List (List (S23)))) := ⟨_, rfl⟩
  replace H : ((plane_checkHulls.f y101).bind fun t104 => (if t104 = 0 then (plane_Gap.l0 k l0 l1 0 33554432) else (some (0, t104)))) = some (r1, r2) := by first | (rw [hy101]; with_reducible exact H) | (have H2_ := (Option.bind_some _ _).symm.trans H; rw [hy101]; with_reducible exact H2_) | (have H2_ := (Option.bind_some _ _).symm.trans H; with_reducible exact H2_) | with_reducible exact H | (rw [hy101]; exact H) | exact H
  have Ny101 := Aside0.mk hy101
  clear hy101
  replace H := Option.bind_eq_some_iff.mp H
  obtain ⟨t104, A30, H⟩ := H
  replace H : (if t104 = 0 then (plane_Gap.l0 k l0 l1 0 33554432) else (some (0, t104))) = some (r1, r2) := H
  have A3 := Aside0.mk A30
  clear A30
  by_cases c4 : t104 = 0
  · rw [if_pos c4] at H
    have c4b0 : (t104 == 0) = true := beq_iff_eq.mpr c4
    have c4b1 : (t104 != 0) = false := bne_eq_false_iff_eq.mpr c4
    clear c4
    have H' := Aside0.mk H
    clear H
    go_enter Try.func60, Try.ntmps60
    go_wp2_with (first | ((with_reducible refine gate_dst (N := 12) rfl ?_); refine Kd.N_lit (Kd.slice 23 k23) _ 53 ?hg (N' := 12) ?hd (xs := ([l0, l1] : List (List (S23)))) (inner := [.slice A0 l0.length c0, .slice A1 l1.length c1]) (ok := (fun k_ => ((P0_ k_ ∨ P1_ k_) ∨ w.heap.size ≤ k_))) (okp := (fun k_ => ((P0_ k_ ∨ P1_ k_) ∨ w.heap.size ≤ k_))) ?hr ?hp (fun _ hk => hk) ((show ∀ k_, w.heap.size ≤ k_ → (fun k_ => ((P0_ k_ ∨ P1_ k_) ∨ w.heap.size ≤ k_)) k_ from fun k_ hk => (.inr (Nat.le_trans (below_size (by repeat (first | (with_reducible first | exact HB.out | apply below_alloc | apply pw_below_drewN | apply below_drew1) | exact HB.out))) hk))) _ (Nat.le_refl _)) (Below.refl _ _) (Nat.le_refl _) (by simp) ?_; (case hd => rfl); (case hg => rfl); (case hr => first | (go_simp; done) | (go_simp; rfl)); (case hp => exact (Reps.one (show Kd.FK (Kd.slice 23 k23) _ _ l0 [.slice A0 l0.length c0] from (Kd.FK_slice_mk (Kd.V_reads' (Kd.V_mono (ok' := (fun k_ => ((P0_ k_ ∨ P1_ k_) ∨ w.heap.size ≤ k_))) (HO0.out) (fun k_ hk => hk))).2.1 (Kd.V_F (Kd.V_mono (ok' := (fun k_ => ((P0_ k_ ∨ P1_ k_) ∨ w.heap.size ≤ k_))) (HO0.out) (fun k_ hk => hk))))) (Reps.one (show Kd.FK (Kd.slice 23 k23) _ _ l1 [.slice A1 l1.length c1] from (Kd.FK_slice_mk (Kd.V_reads' (Kd.V_mono (ok' := (fun k_ => ((P0_ k_ ∨ P1_ k_) ∨ w.heap.size ≤ k_))) (HO1.out) (fun k_ hk => hk))).2.1 (Kd.V_F (Kd.V_mono (ok' := (fun k_ => ((P0_ k_ ∨ P1_ k_) ∨ w.heap.size ≤ k_))) (HO1.out) (fun k_ hk => hk))))) (Reps.none _ _)))); intro v102 w5 ho6 hb hg_ hnew_; clear hg_ hnew_; (first | rw [← Ny101.out] at ho6 | (simp only [Int.reduceToNat] at ho6; rw [← Ny101.out] at ho6)); have n0_ := Aside0.mk (Kd.V_elder' (by (with_reducible repeat (first | apply Kd.V_alloc | apply Kd.V_drewN | apply Kd.V_drew)); exact HO0.out) (Kd.N_base ho6) hb); have n1_ := Aside0.mk (Kd.V_elder' (by (with_reducible repeat (first | apply Kd.V_alloc | apply Kd.V_drewN | apply Kd.V_drew)); exact HO1.out) (Kd.N_base ho6) hb); have n2_ := Aside0.mk (Kd.N_lower ho6 (below_size (by repeat (first | (with_reducible first | exact HB.out | apply below_alloc | apply pw_below_drewN | apply below_drew1) | exact HB.out)))); have n3_ := Aside0.mk (below_step (by repeat (first | (with_reducible first | exact HB.out | apply below_alloc | apply pw_below_drewN | apply below_drew1) | exact HB.out)) hb); clear HO0; clear HO1; clear HB; have HO0 := n0_; have HO1 := n1_; have HO103 := n2_; have HB := n3_; clear n0_ n1_ n2_ n3_; clear hb ho6; obtain ⟨Ao7, co7, eo7⟩ := Kd.N_slice HO103.out; subst eo7) | ((with_reducible refine gate_callee (f := 94) rfl ?_); refine goesL_ (some 13) rfl rfl Try.func94 (by kernel_rfl) rfl #[.slice Ao7 y101.length co7] rfl (by (try simp only [List.map_toArray, List.map_cons, List.map_nil]); first | done | rfl | (simp only [List.length_drop, List.length_take]; rfl)) ?_; (with_reducible refine (plane_checkHulls.calls _ _ y101 t104 _ ?side1 ?side2 A3.out).mono ?_); (case side1 => repeat (first | exact (Kd.N_reads' HO103.out).2.2 | (with_reducible refine Kd.C_alloc ?_ _) | (with_reducible refine Kd.C_drewN ?_ _) | (with_reducible refine Kd.C_drew ?_))); (case side2 => exact (Kd.N_reads' HO103.out).2.1); rintro e w8 ⟨rfl, hb⟩; refine ⟨_, rfl, ?_⟩; have n0_ := Aside0.mk (Kd.V_below (by (with_reducible repeat (first | apply Kd.V_alloc | apply Kd.V_drewN | apply Kd.V_drew)); exact HO0.out) hb); have n1_ := Aside0.mk (Kd.V_below (by (with_reducible repeat (first | apply Kd.V_alloc | apply Kd.V_drewN | apply Kd.V_drew)); exact HO1.out) hb); have n2_ := Aside0.mk (Kd.N_below (by (with_reducible repeat (first | apply Kd.N_alloc | apply Kd.N_drewN | apply Kd.N_drew)); exact HO103.out) hb); have n3_ := Aside0.mk (below_step (by repeat (first | (with_reducible first | exact HB.out | apply below_alloc | apply pw_below_drewN | apply below_drew1) | exact HB.out)) hb); clear HO0; clear HO1; clear HO103; clear HB; have HO0 := n0_; have HO1 := n1_; have HO103 := n2_; have HB := n3_; clear n0_ n1_ n2_ n3_; (try clear hb); (try clear hb2); (try clear hk); (try clear hi)))
    go_loopg [7, 8] k (fun kq v7 v8 w' => ∃ (x7_1 : Int) (x8_1 : Int), v7 = .int .i64 x7_1 ∧ v8 = .int .i64 x8_1 ∧ Aside0 (plane_Gap.l0 kq l0 l1 x7_1 x8_1 = some (r1, r2)) ∧ Aside0 (kq ≤ k) ∧ Aside0 (Kd.V k23 23 w' w.heap.size (fun k_ => ((P0_ k_ ∨ P1_ k_) ∨ w.heap.size ≤ k_)) (.slice A0 l0.length c0) l0) ∧ Aside0 (Kd.V k23 23 w' w.heap.size (fun k_ => ((P0_ k_ ∨ P1_ k_) ∨ w.heap.size ≤ k_)) (.slice A1 l1.length c1) l1) ∧ Aside0 (Below w.heap.size w w'))
    case atStart => exact ⟨(0), (33554432), (by first | rfl | (simp; done) | (simp [*]; done)), (by first | rfl | (simp; done) | (simp [*]; done)), H', ⟨Nat.le_refl _⟩, ⟨by (with_reducible repeat (first | apply Kd.V_alloc | apply Kd.V_drewN | apply Kd.V_drew)); exact Kd.V_mono HO0.out (fun _ hk => hk.1)⟩, ⟨by (with_reducible repeat (first | apply Kd.V_alloc | apply Kd.V_drewN | apply Kd.V_drew)); exact Kd.V_mono HO1.out (fun _ hk => hk.1)⟩, ⟨by repeat (first | (with_reducible first | exact HB.out | apply below_alloc | apply pw_below_drewN | apply below_drew1) | exact HB.out)⟩⟩
    case round =>
      clear H'
      try clear c1
      try clear p2
      try clear c4
      try clear c4b0
      try clear c4b1
      try clear c6
      obtain ⟨x7_1, x8_1, rfl, rfl, HA, HK1, HO_0, HO_1, HB⟩ := hrel
      cases gk with
      | zero => exact absurd HA.out (by simp [plane_Gap.l0])
      | succ k1 =>
        have H := HA.out
        clear HA
        simp only [plane_Gap.l0] at H
        by_cases c9 : x7_1 < x8_1
        · rw [if_pos c9] at H
          have c9b0 : decide (x7_1 < x8_1) = true := decide_eq_true c9
          clear c9
          replace H := Option.bind_eq_some_iff.mp H
          obtain ⟨t105, A100, H⟩ := H
          replace H : ((plane_apart.f t105 l1).bind fun t108 => (if t108 = true then (plane_Gap.l0 k1 l0 l1 (wrap64 ((wrap64 (Int.tdiv (wrap64 (x7_1 + x8_1)) 2)) + 1)) x8_1) else (plane_Gap.l0 k1 l0 l1 x7_1 (wrap64 (Int.tdiv (wrap64 (x7_1 + x8_1)) 2))))) = some (r1, r2) := H
          have A10 := Aside0.mk A100
          clear A100
          replace H := Option.bind_eq_some_iff.mp H
          obtain ⟨t108, A110, H⟩ := H
          replace H : (if t108 = true then (plane_Gap.l0 k1 l0 l1 (wrap64 ((wrap64 (Int.tdiv (wrap64 (x7_1 + x8_1)) 2)) + 1)) x8_1) else (plane_Gap.l0 k1 l0 l1 x7_1 (wrap64 (Int.tdiv (wrap64 (x7_1 + x8_1)) 2)))) = some (r1, r2) := H
          have A11 := Aside0.mk A110
          clear A110
          by_cases c12 : t108 = true
          · subst c12
            have H1 : (plane_Gap.l0 k1 l0 l1 (wrap64 ((wrap64 (Int.tdiv (wrap64 (x7_1 + x8_1)) 2)) + 1)) x8_1) = some (r1, r2) := by rw [if_pos rfl] at H; exact H
            clear H
            have H := H1
            clear H1
            have H' := Aside0.mk H
            clear H
            go_wp2_with (first | ((with_reducible refine gate_callee (f := 100) rfl ?_); refine goesL_ (some 26) rfl rfl Try.func100 (by kernel_rfl) rfl #[.slice A0 l0.length c0, .int .i64 (wrap64 (Int.tdiv (wrap64 (x7_1 + x8_1)) 2))] rfl (by (try simp only [List.map_toArray, List.map_cons, List.map_nil]); first | done | rfl | (simp only [List.length_drop, List.length_take]; rfl)) ?_; (with_reducible refine (plane_grown.calls _ _ l0 (wrap64 (Int.tdiv (wrap64 (x7_1 + x8_1)) 2)) t105 _ ?side1 ?side2 A10.out).mono ?_); (case side1 => repeat (first | exact (Kd.V_reads' HO_0.out).2.2 | (with_reducible refine Kd.C_alloc ?_ _) | (with_reducible refine Kd.C_drewN ?_ _) | (with_reducible refine Kd.C_drew ?_))); (case side2 => exact (Kd.V_reads' HO_0.out).2.1); rintro e w13 ⟨v106, rfl, ho0, hb⟩; refine ⟨_, rfl, ?_⟩; have n0_ := Aside0.mk (Kd.V_elder' (by (with_reducible repeat (first | apply Kd.V_alloc | apply Kd.V_drewN | apply Kd.V_drew)); exact HO_0.out) (Kd.R_base ho0) hb); have n1_ := Aside0.mk (Kd.V_elder' (by (with_reducible repeat (first | apply Kd.V_alloc | apply Kd.V_drewN | apply Kd.V_drew)); exact HO_1.out) (Kd.R_base ho0) hb); have n2_ := Aside0.mk (Kd.R_lower (Kd.R_newM (M := fun k_ => (w.heap.size ≤ k_)) ho0 (below_size (by repeat (first | (with_reducible first | exact HB.out | apply below_alloc | apply pw_below_drewN | apply below_drew1) | exact HB.out))) (fun k_ h_ => h_)) (below_size (by repeat (first | (with_reducible first | exact HB.out | apply below_alloc | apply pw_below_drewN | apply below_drew1) | exact HB.out)))); have n3_ := Aside0.mk (below_step (by repeat (first | (with_reducible first | exact HB.out | apply below_alloc | apply pw_below_drewN | apply below_drew1) | exact HB.out)) hb); clear HO_0; clear HO_1; clear HB; have HO_0 := n0_; have HO_1 := n1_; have HO107 := n2_; have HB := n3_; clear n0_ n1_ n2_ n3_; (try clear hb); (try clear hb2); (try clear hk); (try clear hi); (try clear ho0); obtain ⟨Ao14, co14, eo14⟩ := Kd.R_slice HO107.out; subst eo14) | ((with_reducible refine gate_callee (f := 95) rfl ?_); refine goesL_ (some 28) rfl rfl Try.func95 (by kernel_rfl) rfl #[.slice Ao14 t105.length co14, .slice A1 l1.length c1] rfl (by (try simp only [List.map_toArray, List.map_cons, List.map_nil]); first | done | rfl | (simp only [List.length_drop, List.length_take]; rfl)) ?_; (with_reducible refine (plane_apart.calls _ _ t105 _ _ l1 true _ ?side1 ?side2 ?side3 ?side4 A11.out).mono ?_); (case side1 => repeat (first | exact (Kd.R_reads' HO107.out).2.2 | (with_reducible refine Kd.C_alloc ?_ _) | (with_reducible refine Kd.C_drewN ?_ _) | (with_reducible refine Kd.C_drew ?_))); (case side2 => exact (Kd.R_reads' HO107.out).2.1); (case side3 => repeat (first | exact (Kd.V_reads' HO_1.out).2.2 | (with_reducible refine Kd.C_alloc ?_ _) | (with_reducible refine Kd.C_drewN ?_ _) | (with_reducible refine Kd.C_drew ?_))); (case side4 => exact (Kd.V_reads' HO_1.out).2.1); rintro e w15 ⟨rfl, hb⟩; refine ⟨_, rfl, ?_⟩; have n0_ := Aside0.mk (Kd.V_below (by (with_reducible repeat (first | apply Kd.V_alloc | apply Kd.V_drewN | apply Kd.V_drew)); exact HO_0.out) hb); have n1_ := Aside0.mk (Kd.V_below (by (with_reducible repeat (first | apply Kd.V_alloc | apply Kd.V_drewN | apply Kd.V_drew)); exact HO_1.out) hb); have n2_ := Aside0.mk (Kd.R_below (by (with_reducible repeat (first | apply Kd.R_alloc | apply Kd.R_drewN | apply Kd.R_drew)); exact HO107.out) hb); have n3_ := Aside0.mk (below_step (by repeat (first | (with_reducible first | exact HB.out | apply below_alloc | apply pw_below_drewN | apply below_drew1) | exact HB.out)) hb); clear HO_0; clear HO_1; clear HO107; clear HB; have HO_0 := n0_; have HO_1 := n1_; have HO107 := n2_; have HB := n3_; clear n0_ n1_ n2_ n3_; (try clear hb); (try clear hb2); (try clear hk); (try clear hi)))
            go_roundg k1
            case measure => have := HK1.out; omega
            case rel => exact ⟨(wrap64 ((wrap64 (Int.tdiv (wrap64 (x7_1 + x8_1)) 2)) + 1)), (x8_1), (by first | rfl | (simp; done) | (simp [*]; done)), (by first | rfl | (simp; done) | (simp [*]; done)), H', ⟨by have := HK1.out; omega⟩, ⟨by (with_reducible repeat (first | apply Kd.V_alloc | apply Kd.V_drewN | apply Kd.V_drew)); exact Kd.V_mono HO_0.out (fun _ hk => hk.1)⟩, ⟨by (with_reducible repeat (first | apply Kd.V_alloc | apply Kd.V_drewN | apply Kd.V_drew)); exact Kd.V_mono HO_1.out (fun _ hk => hk.1)⟩, ⟨by repeat (first | (with_reducible first | exact HB.out | apply below_alloc | apply pw_below_drewN | apply below_drew1) | exact HB.out)⟩⟩
          · replace c12 := Bool.eq_false_iff.mpr c12
            subst c12
            have H1 : (plane_Gap.l0 k1 l0 l1 x7_1 (wrap64 (Int.tdiv (wrap64 (x7_1 + x8_1)) 2))) = some (r1, r2) := by rw [if_neg (show ¬ (false = true) by decide)] at H; exact H
            clear H
            have H := H1
            clear H1
            have H' := Aside0.mk H
            clear H
            go_wp2_with (first | ((with_reducible refine gate_callee (f := 100) rfl ?_); refine goesL_ (some 26) rfl rfl Try.func100 (by kernel_rfl) rfl #[.slice A0 l0.length c0, .int .i64 (wrap64 (Int.tdiv (wrap64 (x7_1 + x8_1)) 2))] rfl (by (try simp only [List.map_toArray, List.map_cons, List.map_nil]); first | done | rfl | (simp only [List.length_drop, List.length_take]; rfl)) ?_; (with_reducible refine (plane_grown.calls _ _ l0 (wrap64 (Int.tdiv (wrap64 (x7_1 + x8_1)) 2)) t105 _ ?side1 ?side2 A10.out).mono ?_); (case side1 => repeat (first | exact (Kd.V_reads' HO_0.out).2.2 | (with_reducible refine Kd.C_alloc ?_ _) | (with_reducible refine Kd.C_drewN ?_ _) | (with_reducible refine Kd.C_drew ?_))); (case side2 => exact (Kd.V_reads' HO_0.out).2.1); rintro e w16 ⟨v106, rfl, ho0, hb⟩; refine ⟨_, rfl, ?_⟩; have n0_ := Aside0.mk (Kd.V_elder' (by (with_reducible repeat (first | apply Kd.V_alloc | apply Kd.V_drewN | apply Kd.V_drew)); exact HO_0.out) (Kd.R_base ho0) hb); have n1_ := Aside0.mk (Kd.V_elder' (by (with_reducible repeat (first | apply Kd.V_alloc | apply Kd.V_drewN | apply Kd.V_drew)); exact HO_1.out) (Kd.R_base ho0) hb); have n2_ := Aside0.mk (Kd.R_lower (Kd.R_newM (M := fun k_ => (w.heap.size ≤ k_)) ho0 (below_size (by repeat (first | (with_reducible first | exact HB.out | apply below_alloc | apply pw_below_drewN | apply below_drew1) | exact HB.out))) (fun k_ h_ => h_)) (below_size (by repeat (first | (with_reducible first | exact HB.out | apply below_alloc | apply pw_below_drewN | apply below_drew1) | exact HB.out)))); have n3_ := Aside0.mk (below_step (by repeat (first | (with_reducible first | exact HB.out | apply below_alloc | apply pw_below_drewN | apply below_drew1) | exact HB.out)) hb); clear HO_0; clear HO_1; clear HB; have HO_0 := n0_; have HO_1 := n1_; have HO107 := n2_; have HB := n3_; clear n0_ n1_ n2_ n3_; (try clear hb); (try clear hb2); (try clear hk); (try clear hi); (try clear ho0); obtain ⟨Ao17, co17, eo17⟩ := Kd.R_slice HO107.out; subst eo17) | ((with_reducible refine gate_callee (f := 95) rfl ?_); refine goesL_ (some 28) rfl rfl Try.func95 (by kernel_rfl) rfl #[.slice Ao17 t105.length co17, .slice A1 l1.length c1] rfl (by (try simp only [List.map_toArray, List.map_cons, List.map_nil]); first | done | rfl | (simp only [List.length_drop, List.length_take]; rfl)) ?_; (with_reducible refine (plane_apart.calls _ _ t105 _ _ l1 false _ ?side1 ?side2 ?side3 ?side4 A11.out).mono ?_); (case side1 => repeat (first | exact (Kd.R_reads' HO107.out).2.2 | (with_reducible refine Kd.C_alloc ?_ _) | (with_reducible refine Kd.C_drewN ?_ _) | (with_reducible refine Kd.C_drew ?_))); (case side2 => exact (Kd.R_reads' HO107.out).2.1); (case side3 => repeat (first | exact (Kd.V_reads' HO_1.out).2.2 | (with_reducible refine Kd.C_alloc ?_ _) | (with_reducible refine Kd.C_drewN ?_ _) | (with_reducible refine Kd.C_drew ?_))); (case side4 => exact (Kd.V_reads' HO_1.out).2.1); rintro e w18 ⟨rfl, hb⟩; refine ⟨_, rfl, ?_⟩; have n0_ := Aside0.mk (Kd.V_below (by (with_reducible repeat (first | apply Kd.V_alloc | apply Kd.V_drewN | apply Kd.V_drew)); exact HO_0.out) hb); have n1_ := Aside0.mk (Kd.V_below (by (with_reducible repeat (first | apply Kd.V_alloc | apply Kd.V_drewN | apply Kd.V_drew)); exact HO_1.out) hb); have n2_ := Aside0.mk (Kd.R_below (by (with_reducible repeat (first | apply Kd.R_alloc | apply Kd.R_drewN | apply Kd.R_drew)); exact HO107.out) hb); have n3_ := Aside0.mk (below_step (by repeat (first | (with_reducible first | exact HB.out | apply below_alloc | apply pw_below_drewN | apply below_drew1) | exact HB.out)) hb); clear HO_0; clear HO_1; clear HO107; clear HB; have HO_0 := n0_; have HO_1 := n1_; have HO107 := n2_; have HB := n3_; clear n0_ n1_ n2_ n3_; (try clear hb); (try clear hb2); (try clear hk); (try clear hi)))
            go_roundg k1
            case measure => have := HK1.out; omega
            case rel => exact ⟨(x7_1), (wrap64 (Int.tdiv (wrap64 (x7_1 + x8_1)) 2)), (by first | rfl | (simp; done) | (simp [*]; done)), (by first | rfl | (simp; done) | (simp [*]; done)), H', ⟨by have := HK1.out; omega⟩, ⟨by (with_reducible repeat (first | apply Kd.V_alloc | apply Kd.V_drewN | apply Kd.V_drew)); exact Kd.V_mono HO_0.out (fun _ hk => hk.1)⟩, ⟨by (with_reducible repeat (first | apply Kd.V_alloc | apply Kd.V_drewN | apply Kd.V_drew)); exact Kd.V_mono HO_1.out (fun _ hk => hk.1)⟩, ⟨by repeat (first | (with_reducible first | exact HB.out | apply below_alloc | apply pw_below_drewN | apply below_drew1) | exact HB.out)⟩⟩
        · rw [if_neg c9] at H
          have c9b0 : decide (x7_1 < x8_1) = false := decide_eq_false c9
          clear c9
          simp only [Option.some.injEq, Prod.mk.injEq] at H
          obtain ⟨rfl, rfl⟩ := H
          go_wp2
          go_ret2
          exact ⟨by first | rfl | (simp [errW_none, errW_some] <;> rfl) | (simp [*, errW_none, errW_some] <;> rfl), by repeat (first | (with_reducible first | exact HB.out | apply below_alloc | apply pw_below_drewN | apply below_drew1) | exact HB.out)⟩
  · rw [if_neg c4] at H
    have c4b0 : (t104 == 0) = false := beq_eq_false_iff_ne.mpr c4
    have c4b1 : (t104 != 0) = true := bne_iff_ne.mpr c4
    simp only [Option.some.injEq, Prod.mk.injEq] at H
    obtain ⟨rfl, rfl⟩ := H
    go_enter Try.func60, Try.ntmps60
    go_wp2_with (first | ((with_reducible refine gate_dst (N := 12) rfl ?_); refine Kd.N_lit (Kd.slice 23 k23) _ 53 ?hg (N' := 12) ?hd (xs := ([l0, l1] : List (List (S23)))) (inner := [.slice A0 l0.length c0, .slice A1 l1.length c1]) (ok := (fun k_ => ((P0_ k_ ∨ P1_ k_) ∨ w.heap.size ≤ k_))) (okp := (fun k_ => ((P0_ k_ ∨ P1_ k_) ∨ w.heap.size ≤ k_))) ?hr ?hp (fun _ hk => hk) ((show ∀ k_, w.heap.size ≤ k_ → (fun k_ => ((P0_ k_ ∨ P1_ k_) ∨ w.heap.size ≤ k_)) k_ from fun k_ hk => (.inr (Nat.le_trans (below_size (by repeat (first | (with_reducible first | exact HB.out | apply below_alloc | apply pw_below_drewN | apply below_drew1) | exact HB.out))) hk))) _ (Nat.le_refl _)) (Below.refl _ _) (Nat.le_refl _) (by simp) ?_; (case hd => rfl); (case hg => rfl); (case hr => first | (go_simp; done) | (go_simp; rfl)); (case hp => exact (Reps.one (show Kd.FK (Kd.slice 23 k23) _ _ l0 [.slice A0 l0.length c0] from (Kd.FK_slice_mk (Kd.V_reads' (Kd.V_mono (ok' := (fun k_ => ((P0_ k_ ∨ P1_ k_) ∨ w.heap.size ≤ k_))) (HO0.out) (fun k_ hk => hk))).2.1 (Kd.V_F (Kd.V_mono (ok' := (fun k_ => ((P0_ k_ ∨ P1_ k_) ∨ w.heap.size ≤ k_))) (HO0.out) (fun k_ hk => hk))))) (Reps.one (show Kd.FK (Kd.slice 23 k23) _ _ l1 [.slice A1 l1.length c1] from (Kd.FK_slice_mk (Kd.V_reads' (Kd.V_mono (ok' := (fun k_ => ((P0_ k_ ∨ P1_ k_) ∨ w.heap.size ≤ k_))) (HO1.out) (fun k_ hk => hk))).2.1 (Kd.V_F (Kd.V_mono (ok' := (fun k_ => ((P0_ k_ ∨ P1_ k_) ∨ w.heap.size ≤ k_))) (HO1.out) (fun k_ hk => hk))))) (Reps.none _ _)))); intro v102 w19 ho20 hb hg_ hnew_; clear hg_ hnew_; (first | rw [← Ny101.out] at ho20 | (simp only [Int.reduceToNat] at ho20; rw [← Ny101.out] at ho20)); have n0_ := Aside0.mk (Kd.V_elder' (by (with_reducible repeat (first | apply Kd.V_alloc | apply Kd.V_drewN | apply Kd.V_drew)); exact HO0.out) (Kd.N_base ho20) hb); have n1_ := Aside0.mk (Kd.V_elder' (by (with_reducible repeat (first | apply Kd.V_alloc | apply Kd.V_drewN | apply Kd.V_drew)); exact HO1.out) (Kd.N_base ho20) hb); have n2_ := Aside0.mk (Kd.N_lower ho20 (below_size (by repeat (first | (with_reducible first | exact HB.out | apply below_alloc | apply pw_below_drewN | apply below_drew1) | exact HB.out)))); have n3_ := Aside0.mk (below_step (by repeat (first | (with_reducible first | exact HB.out | apply below_alloc | apply pw_below_drewN | apply below_drew1) | exact HB.out)) hb); clear HO0; clear HO1; clear HB; have HO0 := n0_; have HO1 := n1_; have HO103 := n2_; have HB := n3_; clear n0_ n1_ n2_ n3_; clear hb ho20; obtain ⟨Ao21, co21, eo21⟩ := Kd.N_slice HO103.out; subst eo21) | ((with_reducible refine gate_callee (f := 94) rfl ?_); refine goesL_ (some 13) rfl rfl Try.func94 (by kernel_rfl) rfl #[.slice Ao21 y101.length co21] rfl (by (try simp only [List.map_toArray, List.map_cons, List.map_nil]); first | done | rfl | (simp only [List.length_drop, List.length_take]; rfl)) ?_; (with_reducible refine (plane_checkHulls.calls _ _ y101 t104 _ ?side1 ?side2 A3.out).mono ?_); (case side1 => repeat (first | exact (Kd.N_reads' HO103.out).2.2 | (with_reducible refine Kd.C_alloc ?_ _) | (with_reducible refine Kd.C_drewN ?_ _) | (with_reducible refine Kd.C_drew ?_))); (case side2 => exact (Kd.N_reads' HO103.out).2.1); rintro e w22 ⟨rfl, hb⟩; refine ⟨_, rfl, ?_⟩; have n0_ := Aside0.mk (Kd.V_below (by (with_reducible repeat (first | apply Kd.V_alloc | apply Kd.V_drewN | apply Kd.V_drew)); exact HO0.out) hb); have n1_ := Aside0.mk (Kd.V_below (by (with_reducible repeat (first | apply Kd.V_alloc | apply Kd.V_drewN | apply Kd.V_drew)); exact HO1.out) hb); have n2_ := Aside0.mk (Kd.N_below (by (with_reducible repeat (first | apply Kd.N_alloc | apply Kd.N_drewN | apply Kd.N_drew)); exact HO103.out) hb); have n3_ := Aside0.mk (below_step (by repeat (first | (with_reducible first | exact HB.out | apply below_alloc | apply pw_below_drewN | apply below_drew1) | exact HB.out)) hb); clear HO0; clear HO1; clear HO103; clear HB; have HO0 := n0_; have HO1 := n1_; have HO103 := n2_; have HB := n3_; clear n0_ n1_ n2_ n3_; (try clear hb); (try clear hb2); (try clear hk); (try clear hi)))
    go_ret2
    exact ⟨by first | rfl | (simp [errW_none, errW_some] <;> rfl) | (simp [*, errW_none, errW_some] <;> rfl), by repeat (first | (with_reducible first | exact HB.out | apply below_alloc | apply pw_below_drewN | apply below_drew1) | exact HB.out)⟩
end Go.Proofs.Ytegdcnjjelgpjaa.P
namespace Go.Proofs.Ytegdcnjjelgpjaa.P
open Go.RowKit Go.Proofs.YtegdcnjjelgpjaaW.PrintWords Go.Proofs.YtegdcnjjelgpjaaW.PrintLast Go.Proofs.YtegdcnjjelgpjaaW.PrintMore
attribute [local go_sem] max2_int min2_int max_two min_two max_three min_three max_four min_four   -- for this text's walks alone
set_option linter.unusedVariables false
set_option linter.unusedSimpArgs false
def plane_CheckPart.j0 : Nat → List (S23) → List (S23) → Bool → Int → Int → Int → Option (Int)
  | 0, _, _, _, _, _, _ => none
  | k + 1, x0, x1, x34, x102000, x102001, x102002 => if x34 = true then (some 3) else ((plane_span.f x102000 x102001 x102002 x0).bind fun bt109 => ((plane_span.f x102000 x102001 x102002 x1).bind fun bt111 => (if bt109.2 > x102002 then (some 16) else (if bt111.1 ≤ x102002 then (some 16) else (some 0)))))
def plane_CheckPart.f (k : Nat) (l0 : List (S23)) (l1 : List (S23)) (a2_0 : Int) (a2_1 : Int) (a2_2 : Int) : Option (Int) := (plane_checkHulls.f (([l0, l1] : List (List (S23))))).bind fun t105 => (if t105 = 0 then ((plane_within.f a2_0 (-67108864) 67108864).bind fun t106 => (if t106 = true then ((plane_within.f a2_1 (-67108864) 67108864).bind fun t107 => (if t107 = true then ((plane_within.f a2_2 (-4503599627370496) 4503599627370496).bind fun t108 => (plane_CheckPart.j0 k l0 l1 (!t108) a2_0 a2_1 a2_2)) else (plane_CheckPart.j0 k l0 l1 true a2_0 a2_1 a2_2))) else (plane_CheckPart.j0 k l0 l1 true a2_0 a2_1 a2_2))) else (some t105))
theorem plane_CheckPart.mono_l : ∀ k, (∀ y0 y1 y2 y3 y4 y5, LeO (plane_CheckPart.j0 k y0 y1 y2 y3 y4 y5) (plane_CheckPart.j0 (k + 1) y0 y1 y2 y3 y4 y5))
  | 0 => fun _ _ _ _ _ _ r h => by simp [plane_CheckPart.j0] at h
  | k + 1 => by
    have ih0 := plane_CheckPart.mono_l k
    · intro y0 y1 y2 y3 y4 y5
      unfold plane_CheckPart.j0
      repeat' first
      | (with_reducible exact ih0 _ _ _ _ _ _)
      | (with_reducible exact LeO.refl _)
      | (with_reducible exact LeO.none _)
      | (with_reducible refine LeO.ite ?_ ?_)
      | (with_reducible refine LeO.bind ?_ (fun _ => ?_))
      | exact ih0 _ _ _ _ _ _
      | exact LeO.none _
      | refine LeO.ite ?_ ?_
      | refine LeO.bind ?_ (fun _ => ?_)
theorem plane_CheckPart.mono : ∀ a0 a1 a2 a3 a4 k, LeO (plane_CheckPart.f k a0 a1 a2 a3 a4) (plane_CheckPart.f (k + 1) a0 a1 a2 a3 a4) := by
  intro a0 a1 a2 a3 a4 k
  have ih0 := plane_CheckPart.mono_l k
  unfold plane_CheckPart.f
  repeat' first
      | (with_reducible exact ih0 _ _ _ _ _ _)
      | (with_reducible exact LeO.refl _)
      | (with_reducible exact LeO.none _)
      | (with_reducible refine LeO.ite ?_ ?_)
      | (with_reducible refine LeO.bind ?_ (fun _ => ?_))
      | exact ih0 _ _ _ _ _ _
      | exact LeO.none _
      | refine LeO.ite ?_ ?_
      | refine LeO.bind ?_ (fun _ => ?_)
set_option maxHeartbeats 8000000 in
set_option maxRecDepth 100000 in
theorem plane_CheckPart.calls (k : Nat) (P0_ : Nat → Prop) (A0 : Option Addr) (c0 : Nat) (l0 : List (S23)) (P1_ : Nat → Prop) (A1 : Option Addr) (c1 : Nat) (l1 : List (S23)) (a2_0 : Int) (a2_1 : Int) (a2_2 : Int) (r : Int) (w : World) (hs0 : Kd.V k23 23 w w.heap.size (fun k_ => P0_ k_) (.slice A0 l0.length c0) l0) (hs1 : Kd.V k23 23 w w.heap.size (fun k_ => P1_ k_) (.slice A1 l1.length c1) l1) (h : plane_CheckPart.f k l0 l1 a2_0 a2_1 a2_2 = some r) :
    Calls Try.prog 62 #[.slice A0 l0.length c0, .slice A1 l1.length c1, .agg #[.int .i64 a2_0, .int .i64 a2_1, .int .i64 a2_2]] w fun e w' => e = .returned (.int .i64 r) ∧ Below w.heap.size w w' := by
  have hu75 := Try.underlying75
  have HO0 := Aside0.mk (show Kd.V k23 23 w w.heap.size (fun k_ => ((P0_ k_ ∨ P1_ k_) ∨ w.heap.size ≤ k_)) (.slice A0 l0.length c0) l0 from Kd.V_mono hs0 (fun k_ hk => .inl (.inl hk)))
  have HO1 := Aside0.mk (show Kd.V k23 23 w w.heap.size (fun k_ => ((P0_ k_ ∨ P1_ k_) ∨ w.heap.size ≤ k_)) (.slice A1 l1.length c1) l1 from Kd.V_mono hs1 (fun k_ hk => .inl (.inr hk)))
  have HB := Aside0.mk (Below.refl w.heap.size w)
  have H : ((plane_checkHulls.f (([l0, l1] : List (List (S23))))).bind fun t105 => (if t105 = 0 then ((plane_within.f a2_0 (-67108864) 67108864).bind fun t106 => (if t106 = true then ((plane_within.f a2_1 (-67108864) 67108864).bind fun t107 => (if t107 = true then ((plane_within.f a2_2 (-4503599627370496) 4503599627370496).bind fun t108 => (plane_CheckPart.j0 k l0 l1 (!t108) a2_0 a2_1 a2_2)) else (plane_CheckPart.j0 k l0 l1 true a2_0 a2_1 a2_2))) else (plane_CheckPart.j0 k l0 l1 true a2_0 a2_1 a2_2))) else (some t105))) = some r := h
  clear h
  obtain ⟨y102, hy102⟩ : ∃ y_ : List (List (S23)), y_ = (([l0, l1] : List (List (S23)))) := ⟨_, rfl⟩
  replace H : ((plane_checkHulls.f y102).bind fun t105 => (if t105 = 0 then ((plane_within.f a2_0 (-67108864) 67108864).bind fun t106 => (if t106 = true then ((plane_within.f a2_1 (-67108864) 67108864).bind fun t107 => (if t107 = true then ((plane_within.f a2_2 (-4503599627370496) 4503599627370496).bind fun t108 => (plane_CheckPart.j0 k l0 l1 (!t108) a2_0 a2_1 a2_2)) else (plane_CheckPart.j0 k l0 l1 true a2_0 a2_1 a2_2))) else (plane_CheckPart.j0 k l0 l1 true a2_0 a2_1 a2_2))) else (some t105))) = some r := by first | (rw [hy102]; with_reducible exact H) | (have H2_ := (Option.bind_some _ _).symm.trans H; rw [hy102]; with_reducible exact H2_) | (have H2_ := (Option.bind_some _ _).symm.trans H; with_reducible exact H2_) | with_reducible exact H | (rw [hy102]; exact H) | exact H
  have Ny102 := Aside0.mk hy102
  clear hy102
  replace H := Option.bind_eq_some_iff.mp H
  obtain ⟨t105, A40, H⟩ := H
  replace H : (if t105 = 0 then ((plane_within.f a2_0 (-67108864) 67108864).bind fun t106 => (if t106 = true then ((plane_within.f a2_1 (-67108864) 67108864).bind fun t107 => (if t107 = true then ((plane_within.f a2_2 (-4503599627370496) 4503599627370496).bind fun t108 => (plane_CheckPart.j0 k l0 l1 (!t108) a2_0 a2_1 a2_2)) else (plane_CheckPart.j0 k l0 l1 true a2_0 a2_1 a2_2))) else (plane_CheckPart.j0 k l0 l1 true a2_0 a2_1 a2_2))) else (some t105)) = some r := H
  have A4 := Aside0.mk A40
  clear A40
  by_cases c5 : t105 = 0
  · rw [if_pos c5] at H
    have c5b0 : (t105 == 0) = true := beq_iff_eq.mpr c5
    have c5b1 : (t105 != 0) = false := bne_eq_false_iff_eq.mpr c5
    clear c5
    have HC6 := Aside0.mk H
    clear H
    go_enter Try.func62, Try.ntmps62
    go_upto_region 4 with (first | ((with_reducible refine gate_dst (N := 5) rfl ?_); refine box_event ?hg (N := 5) ?hd (cs := #[.int .i64 a2_0, .int .i64 a2_1, .int .i64 a2_2]) (t := 75) ?hr ?_; (case hd => rfl); (case hg => rfl); (case hr => first | (go_simp; done) | (go_simp; rfl)); intro gb101 hg w7 hbox hb; have n0_ := Aside0.mk (Kd.V_below (Kd.V_elderB (by (with_reducible repeat (first | apply Kd.V_alloc | apply Kd.V_drewN | apply Kd.V_drew)); exact HO0.out) gb101 (Nat.le_of_eq hg.symm)) hb); have n1_ := Aside0.mk (Kd.V_below (Kd.V_elderB (by (with_reducible repeat (first | apply Kd.V_alloc | apply Kd.V_drewN | apply Kd.V_drew)); exact HO1.out) gb101 (Nat.le_of_eq hg.symm)) hb); have n2_ := Aside0.mk (below_step (by repeat (first | (with_reducible first | exact HB.out | apply below_alloc | apply pw_below_drewN | apply below_drew1) | exact HB.out)) hb); have n3_ := Aside0.mk (hbox); have n4_ := Aside0.mk ((by rw [hg]; exact (below_size (by repeat (first | (with_reducible first | exact HB.out | apply below_alloc | apply pw_below_drewN | apply below_drew1) | exact HB.out))) : w.heap.size ≤ gb101)); have n5_ := Aside0.mk ((by rw [hg]; exact (below_size (by repeat (first | (with_reducible first | exact HB.out | apply below_alloc | apply pw_below_drewN | apply below_drew1) | exact HB.out))) : w.heap.size ≤ gb101)); clear HO0; clear HO1; clear HB; have HO0 := n0_; have HO1 := n1_; have HB := n2_; have BK101 := n3_; have GW101 := n4_; have GE101 := n5_; clear n0_ n1_ n2_ n3_ n4_ n5_; clear hb hbox hg) | ((with_reducible refine gate_dst (N := 14) rfl ?_); refine Kd.N_lit (Kd.slice 23 k23) _ 53 ?hg (N' := 14) ?hd (xs := ([l0, l1] : List (List (S23)))) (inner := [.slice A0 l0.length c0, .slice A1 l1.length c1]) (ok := (fun k_ => ((P0_ k_ ∨ P1_ k_) ∨ w.heap.size ≤ k_) ∧ k_ ≠ gb101)) (okp := (fun k_ => ((P0_ k_ ∨ P1_ k_) ∨ w.heap.size ≤ k_) ∧ k_ ≠ gb101)) ?hr ?hp (fun _ hk => hk) ((show ∀ k_, w7.heap.size ≤ k_ → (fun k_ => ((P0_ k_ ∨ P1_ k_) ∨ w.heap.size ≤ k_) ∧ k_ ≠ gb101) k_ from fun k_ hk => ⟨(.inr (Nat.le_trans (below_size (by repeat (first | (with_reducible first | exact HB.out | apply below_alloc | apply pw_below_drewN | apply below_drew1 | refine below_set ?_ GE101.out) | exact HB.out))) hk)), Kd.freshB (g := gb101) (o := .cells #[.int .i64 a2_0, .int .i64 a2_1, .int .i64 a2_2] 75 (0, 0)) (by (with_reducible repeat (first | refine blk_drewN ?_ _ | refine blk_drew ?_ | refine blk_alloc ?_ _)); exact BK101.out) k_ hk⟩) _ (Nat.le_refl _)) (Below.refl _ _) (Nat.le_refl _) (by simp) ?_; (case hd => rfl); (case hg => rfl); (case hr => first | (go_simp; done) | (go_simp; rfl)); (case hp => exact (Reps.one (show Kd.FK (Kd.slice 23 k23) _ _ l0 [.slice A0 l0.length c0] from (Kd.FK_slice_mk (Kd.V_reads' (Kd.V_mono (ok' := (fun k_ => ((P0_ k_ ∨ P1_ k_) ∨ w.heap.size ≤ k_) ∧ k_ ≠ gb101)) (HO0.out) (fun k_ hk => ⟨hk.1, hk.2⟩))).2.1 (Kd.V_F (Kd.V_mono (ok' := (fun k_ => ((P0_ k_ ∨ P1_ k_) ∨ w.heap.size ≤ k_) ∧ k_ ≠ gb101)) (HO0.out) (fun k_ hk => ⟨hk.1, hk.2⟩))))) (Reps.one (show Kd.FK (Kd.slice 23 k23) _ _ l1 [.slice A1 l1.length c1] from (Kd.FK_slice_mk (Kd.V_reads' (Kd.V_mono (ok' := (fun k_ => ((P0_ k_ ∨ P1_ k_) ∨ w.heap.size ≤ k_) ∧ k_ ≠ gb101)) (HO1.out) (fun k_ hk => ⟨hk.1, hk.2⟩))).2.1 (Kd.V_F (Kd.V_mono (ok' := (fun k_ => ((P0_ k_ ∨ P1_ k_) ∨ w.heap.size ≤ k_) ∧ k_ ≠ gb101)) (HO1.out) (fun k_ hk => ⟨hk.1, hk.2⟩))))) (Reps.none _ _)))); intro v103 w8 ho9 hb hg_ hnew_; clear hg_ hnew_; (first | rw [← Ny102.out] at ho9 | (simp only [Int.reduceToNat] at ho9; rw [← Ny102.out] at ho9)); have n0_ := Aside0.mk (Kd.V_elder' (by (with_reducible repeat (first | apply Kd.V_alloc | apply Kd.V_drewN | apply Kd.V_drew)); exact HO0.out) (Kd.N_base ho9) hb); have n1_ := Aside0.mk (Kd.V_elder' (by (with_reducible repeat (first | apply Kd.V_alloc | apply Kd.V_drewN | apply Kd.V_drew)); exact HO1.out) (Kd.N_base ho9) hb); have n2_ := Aside0.mk (Kd.N_lower ho9 (below_size (by repeat (first | (with_reducible first | exact HB.out | apply below_alloc | apply pw_below_drewN | apply below_drew1 | refine below_set ?_ GE101.out) | exact HB.out)))); have n3_ := Aside0.mk (blk_below (g := gb101) (o := .cells #[.int .i64 a2_0, .int .i64 a2_1, .int .i64 a2_2] 75 (0, 0)) (by (with_reducible repeat (first | refine blk_drewN ?_ _ | refine blk_drew ?_ | refine blk_alloc ?_ _)); exact BK101.out) hb); have n4_ := Aside0.mk (below_step (by repeat (first | (with_reducible first | exact HB.out | apply below_alloc | apply pw_below_drewN | apply below_drew1 | refine below_set ?_ GE101.out) | exact HB.out)) hb); clear HO0; clear HO1; clear BK101; clear HB; have HO0 := n0_; have HO1 := n1_; have HO104 := n2_; have BK101 := n3_; have HB := n4_; clear n0_ n1_ n2_ n3_ n4_; clear hb ho9; obtain ⟨Ao10, co10, eo10⟩ := Kd.N_slice HO104.out; subst eo10) | ((with_reducible refine gate_callee (f := 94) rfl ?_); refine goesL_ (some 15) rfl rfl Try.func94 (by kernel_rfl) rfl #[.slice Ao10 y102.length co10] rfl (by (try simp only [List.map_toArray, List.map_cons, List.map_nil]); first | done | rfl | (simp only [List.length_drop, List.length_take]; rfl)) ?_; (with_reducible refine (plane_checkHulls.calls _ _ y102 t105 _ ?side1 ?side2 A4.out).mono ?_); (case side1 => repeat (first | exact (Kd.N_reads' HO104.out).2.2 | (with_reducible refine Kd.C_alloc ?_ _) | (with_reducible refine Kd.C_drewN ?_ _) | (with_reducible refine Kd.C_drew ?_))); (case side2 => exact (Kd.N_reads' HO104.out).2.1); rintro e w11 ⟨rfl, hb⟩; refine ⟨_, rfl, ?_⟩; have n0_ := Aside0.mk (Kd.V_below (by (with_reducible repeat (first | apply Kd.V_alloc | apply Kd.V_drewN | apply Kd.V_drew)); exact HO0.out) hb); have n1_ := Aside0.mk (Kd.V_below (by (with_reducible repeat (first | apply Kd.V_alloc | apply Kd.V_drewN | apply Kd.V_drew)); exact HO1.out) hb); have n2_ := Aside0.mk (Kd.N_below (by (with_reducible repeat (first | apply Kd.N_alloc | apply Kd.N_drewN | apply Kd.N_drew)); exact HO104.out) hb); have n3_ := Aside0.mk (blk_below (g := gb101) (o := .cells #[.int .i64 a2_0, .int .i64 a2_1, .int .i64 a2_2] 75 (0, 0)) (by (with_reducible repeat (first | refine blk_drewN ?_ _ | refine blk_drew ?_ | refine blk_alloc ?_ _)); exact BK101.out) hb); have n4_ := Aside0.mk (below_step (by repeat (first | (with_reducible first | exact HB.out | apply below_alloc | apply pw_below_drewN | apply below_drew1 | refine below_set ?_ GE101.out) | exact HB.out)) hb); clear HO0; clear HO1; clear HO104; clear BK101; clear HB; have HO0 := n0_; have HO1 := n1_; have HO104 := n2_; have BK101 := n3_; have HB := n4_; clear n0_ n1_ n2_ n3_ n4_; (try clear hb); (try clear hb2); (try clear hk); (try clear hi)))
    (try simp only [Act.put, List.setIfInBounds_toArray, List.set_cons_zero, List.set_cons_succ])
    go_cut [34] (fun v34 wc => ∃ (kq : Nat) (x34_5 : Bool), v34 = .bool x34_5 ∧ Aside0 (plane_CheckPart.j0 kq l0 l1 x34_5 a2_0 a2_1 a2_2 = some r) ∧ Aside0 (kq ≤ k) ∧ Aside0 (Kd.V k23 23 wc w.heap.size (fun k_ => ((P0_ k_ ∨ P1_ k_) ∨ w.heap.size ≤ k_) ∧ k_ ≠ gb101) (.slice A0 l0.length c0) l0) ∧ Aside0 (Kd.V k23 23 wc w.heap.size (fun k_ => ((P0_ k_ ∨ P1_ k_) ∨ w.heap.size ≤ k_) ∧ k_ ≠ gb101) (.slice A1 l1.length c1) l1) ∧ Aside0 (wc.heap[gb101]? = some (.cells #[.int .i64 a2_0, .int .i64 a2_1, .int .i64 a2_2] 75 (0, 0))) ∧ Aside0 (Below w.heap.size w wc))
    case first =>
      have H := HC6.out
      clear HC6
      replace H := Option.bind_eq_some_iff.mp H
      obtain ⟨t106, A120, H⟩ := H
      replace H : (if t106 = true then ((plane_within.f a2_1 (-67108864) 67108864).bind fun t107 => (if t107 = true then ((plane_within.f a2_2 (-4503599627370496) 4503599627370496).bind fun t108 => (plane_CheckPart.j0 k l0 l1 (!t108) a2_0 a2_1 a2_2)) else (plane_CheckPart.j0 k l0 l1 true a2_0 a2_1 a2_2))) else (plane_CheckPart.j0 k l0 l1 true a2_0 a2_1 a2_2)) = some r := H
      have A12 := Aside0.mk A120
      clear A120
      by_cases c13 : t106 = true
      · subst c13
        have H1 : ((plane_within.f a2_1 (-67108864) 67108864).bind fun t107 => (if t107 = true then ((plane_within.f a2_2 (-4503599627370496) 4503599627370496).bind fun t108 => (plane_CheckPart.j0 k l0 l1 (!t108) a2_0 a2_1 a2_2)) else (plane_CheckPart.j0 k l0 l1 true a2_0 a2_1 a2_2))) = some r := by rw [if_pos rfl] at H; exact H
        clear H
        have H := H1
        clear H1
        replace H := Option.bind_eq_some_iff.mp H
        obtain ⟨t107, A140, H⟩ := H
        replace H : (if t107 = true then ((plane_within.f a2_2 (-4503599627370496) 4503599627370496).bind fun t108 => (plane_CheckPart.j0 k l0 l1 (!t108) a2_0 a2_1 a2_2)) else (plane_CheckPart.j0 k l0 l1 true a2_0 a2_1 a2_2)) = some r := H
        have A14 := Aside0.mk A140
        clear A140
        by_cases c15 : t107 = true
        · subst c15
          have H1 : ((plane_within.f a2_2 (-4503599627370496) 4503599627370496).bind fun t108 => (plane_CheckPart.j0 k l0 l1 (!t108) a2_0 a2_1 a2_2)) = some r := by rw [if_pos rfl] at H; exact H
          clear H
          have H := H1
          clear H1
          replace H := Option.bind_eq_some_iff.mp H
          obtain ⟨t108, A160, H⟩ := H
          replace H : (plane_CheckPart.j0 k l0 l1 (!t108) a2_0 a2_1 a2_2) = some r := H
          have A16 := Aside0.mk A160
          clear A160
          have H' := Aside0.mk H
          clear H
          have hcz17_0 : w11.cell? ⟨gb101, 0, none⟩ = some (.int .i64 a2_0) := (blk_cell BK101.out 0).trans rfl
          have hcz17_1 : w11.cell? ⟨gb101, 1, none⟩ = some (.int .i64 a2_1) := (blk_cell BK101.out 1).trans rfl
          have hcz17_2 : w11.cell? ⟨gb101, 2, none⟩ = some (.int .i64 a2_2) := (blk_cell BK101.out 2).trans rfl
          have hfz17_0 := blk_frozen BK101.out 0
          have hfz17_1 := blk_frozen BK101.out 1
          have hfz17_2 := blk_frozen BK101.out 2
          go_wp2_with (first | ((with_reducible refine gate_callee (f := 67) rfl ?_); refine goesL_ (some 21) rfl rfl Try.func67 (by kernel_rfl) rfl #[.int .i64 a2_0, .int .i64 (-67108864), .int .i64 67108864] rfl (by (try simp only [List.map_toArray, List.map_cons, List.map_nil]); first | done | rfl | (simp only [List.length_drop, List.length_take]; rfl)) ?_; (with_reducible refine (plane_within.calls a2_0 (-67108864) 67108864 true _ A12.out).mono ?_); rintro e w' ⟨rfl, ⟨nd, rfl⟩⟩; refine ⟨_, rfl, ?_⟩) | (go_at_call 67; (with_reducible refine (plane_within.calls a2_1 (-67108864) 67108864 true _ A14.out).mono ?_); rintro e w' ⟨rfl, ⟨nd, rfl⟩⟩) | (go_at_call 67; (with_reducible refine (plane_within.calls a2_2 (-4503599627370496) 4503599627370496 t108 _ A16.out).mono ?_); rintro e w' ⟨rfl, ⟨nd, rfl⟩⟩))
          go_meet
          case rel => exact ⟨_, (!t108), (by first | rfl | (simp; done) | (simp [*]; done)), H', ⟨by first | omega | exact Nat.le_refl _⟩, ⟨by (with_reducible repeat (first | apply Kd.V_alloc | apply Kd.V_drewN | apply Kd.V_drew)); exact Kd.V_mono HO0.out (fun _ hk => ⟨hk.1.1, hk.1.2⟩)⟩, ⟨by (with_reducible repeat (first | apply Kd.V_alloc | apply Kd.V_drewN | apply Kd.V_drew)); exact Kd.V_mono HO1.out (fun _ hk => ⟨hk.1.1, hk.1.2⟩)⟩, ⟨by (with_reducible repeat (first | refine blk_drewN ?_ _ | refine blk_drew ?_ | refine blk_alloc ?_ _)); exact BK101.out⟩, ⟨by repeat (first | (with_reducible first | exact HB.out | apply below_alloc | apply pw_below_drewN | apply below_drew1 | refine below_set ?_ GE101.out) | exact HB.out)⟩⟩
        · replace c15 := Bool.eq_false_iff.mpr c15
          subst c15
          have H1 : (plane_CheckPart.j0 k l0 l1 true a2_0 a2_1 a2_2) = some r := by rw [if_neg (show ¬ (false = true) by decide)] at H; exact H
          clear H
          have H := H1
          clear H1
          have H' := Aside0.mk H
          clear H
          have hcz18_0 : w11.cell? ⟨gb101, 0, none⟩ = some (.int .i64 a2_0) := (blk_cell BK101.out 0).trans rfl
          have hcz18_1 : w11.cell? ⟨gb101, 1, none⟩ = some (.int .i64 a2_1) := (blk_cell BK101.out 1).trans rfl
          have hcz18_2 : w11.cell? ⟨gb101, 2, none⟩ = some (.int .i64 a2_2) := (blk_cell BK101.out 2).trans rfl
          have hfz18_0 := blk_frozen BK101.out 0
          have hfz18_1 := blk_frozen BK101.out 1
          have hfz18_2 := blk_frozen BK101.out 2
          go_wp2_with (first | ((with_reducible refine gate_callee (f := 67) rfl ?_); refine goesL_ (some 21) rfl rfl Try.func67 (by kernel_rfl) rfl #[.int .i64 a2_0, .int .i64 (-67108864), .int .i64 67108864] rfl (by (try simp only [List.map_toArray, List.map_cons, List.map_nil]); first | done | rfl | (simp only [List.length_drop, List.length_take]; rfl)) ?_; (with_reducible refine (plane_within.calls a2_0 (-67108864) 67108864 true _ A12.out).mono ?_); rintro e w' ⟨rfl, ⟨nd, rfl⟩⟩; refine ⟨_, rfl, ?_⟩) | (go_at_call 67; (with_reducible refine (plane_within.calls a2_1 (-67108864) 67108864 false _ A14.out).mono ?_); rintro e w' ⟨rfl, ⟨nd, rfl⟩⟩))
          go_meet
          case rel => exact ⟨_, (true), (by first | rfl | (simp; done) | (simp [*]; done)), H', ⟨by first | omega | exact Nat.le_refl _⟩, ⟨by (with_reducible repeat (first | apply Kd.V_alloc | apply Kd.V_drewN | apply Kd.V_drew)); exact Kd.V_mono HO0.out (fun _ hk => ⟨hk.1.1, hk.1.2⟩)⟩, ⟨by (with_reducible repeat (first | apply Kd.V_alloc | apply Kd.V_drewN | apply Kd.V_drew)); exact Kd.V_mono HO1.out (fun _ hk => ⟨hk.1.1, hk.1.2⟩)⟩, ⟨by (with_reducible repeat (first | refine blk_drewN ?_ _ | refine blk_drew ?_ | refine blk_alloc ?_ _)); exact BK101.out⟩, ⟨by repeat (first | (with_reducible first | exact HB.out | apply below_alloc | apply pw_below_drewN | apply below_drew1 | refine below_set ?_ GE101.out) | exact HB.out)⟩⟩
      · replace c13 := Bool.eq_false_iff.mpr c13
        subst c13
        have H1 : (plane_CheckPart.j0 k l0 l1 true a2_0 a2_1 a2_2) = some r := by rw [if_neg (show ¬ (false = true) by decide)] at H; exact H
        clear H
        have H := H1
        clear H1
        have H' := Aside0.mk H
        clear H
        have hcz19_0 : w11.cell? ⟨gb101, 0, none⟩ = some (.int .i64 a2_0) := (blk_cell BK101.out 0).trans rfl
        have hcz19_1 : w11.cell? ⟨gb101, 1, none⟩ = some (.int .i64 a2_1) := (blk_cell BK101.out 1).trans rfl
        have hcz19_2 : w11.cell? ⟨gb101, 2, none⟩ = some (.int .i64 a2_2) := (blk_cell BK101.out 2).trans rfl
        have hfz19_0 := blk_frozen BK101.out 0
        have hfz19_1 := blk_frozen BK101.out 1
        have hfz19_2 := blk_frozen BK101.out 2
        go_wp2_with (first | ((with_reducible refine gate_callee (f := 67) rfl ?_); refine goesL_ (some 21) rfl rfl Try.func67 (by kernel_rfl) rfl #[.int .i64 a2_0, .int .i64 (-67108864), .int .i64 67108864] rfl (by (try simp only [List.map_toArray, List.map_cons, List.map_nil]); first | done | rfl | (simp only [List.length_drop, List.length_take]; rfl)) ?_; (with_reducible refine (plane_within.calls a2_0 (-67108864) 67108864 false _ A12.out).mono ?_); rintro e w' ⟨rfl, ⟨nd, rfl⟩⟩; refine ⟨_, rfl, ?_⟩))
        go_meet
        case rel => exact ⟨_, (true), (by first | rfl | (simp; done) | (simp [*]; done)), H', ⟨by first | omega | exact Nat.le_refl _⟩, ⟨by (with_reducible repeat (first | apply Kd.V_alloc | apply Kd.V_drewN | apply Kd.V_drew)); exact Kd.V_mono HO0.out (fun _ hk => ⟨hk.1.1, hk.1.2⟩)⟩, ⟨by (with_reducible repeat (first | apply Kd.V_alloc | apply Kd.V_drewN | apply Kd.V_drew)); exact Kd.V_mono HO1.out (fun _ hk => ⟨hk.1.1, hk.1.2⟩)⟩, ⟨by (with_reducible repeat (first | refine blk_drewN ?_ _ | refine blk_drew ?_ | refine blk_alloc ?_ _)); exact BK101.out⟩, ⟨by repeat (first | (with_reducible first | exact HB.out | apply below_alloc | apply pw_below_drewN | apply below_drew1 | refine below_set ?_ GE101.out) | exact HB.out)⟩⟩
    case rest =>
      clear HC6
      try clear c1
      try clear p2
      try clear c5
      try clear c5b0
      try clear c5b1
      try clear c6
      try clear c9
      try clear c13
      try clear c15
      try clear hcz17_0
      try clear hcz17_1
      try clear hcz17_2
      try clear hcz18_0
      try clear hcz18_1
      try clear hcz18_2
      try clear hcz19_0
      try clear hcz19_1
      try clear hcz19_2
      try clear hfz17_0
      try clear hfz17_1
      try clear hfz17_2
      try clear hfz18_0
      try clear hfz18_1
      try clear hfz18_2
      try clear hfz19_0
      try clear hfz19_1
      try clear hfz19_2
      obtain ⟨kq, x34_5, rfl, HA, HJ5, HO_0, HO_1, BK101, HB⟩ := hcut
      cases kq with
      | zero => exact absurd HA.out (by simp [plane_CheckPart.j0])
      | succ kj5 =>
        have H := HA.out
        clear HA
        simp only [plane_CheckPart.j0] at H
        by_cases c20 : x34_5 = true
        · subst c20
          have H1 : (some 3) = some r := by rw [if_pos rfl] at H; exact H
          clear H
          have H := H1
          clear H1
          obtain rfl := Option.some.inj H
          go_wp2
          go_ret
          exact ⟨by first | rfl | (simp [errW_none, errW_some] <;> rfl) | (simp [*, errW_none, errW_some] <;> rfl), by repeat (first | (with_reducible first | exact HB.out | apply below_alloc | apply pw_below_drewN | apply below_drew1 | refine below_set ?_ GE101.out) | exact HB.out)⟩
        · replace c20 := Bool.eq_false_iff.mpr c20
          subst c20
          have H1 : ((plane_span.f a2_0 a2_1 a2_2 l0).bind fun bt109 => ((plane_span.f a2_0 a2_1 a2_2 l1).bind fun bt111 => (if bt109.2 > a2_2 then (some 16) else (if bt111.1 ≤ a2_2 then (some 16) else (some 0))))) = some r := by rw [if_neg (show ¬ (false = true) by decide)] at H; exact H
          clear H
          have H := H1
          clear H1
          replace H := Option.bind_eq_some_iff.mp H
          obtain ⟨⟨t109, t110⟩, A210, H⟩ := H
          replace H : ((plane_span.f a2_0 a2_1 a2_2 l1).bind fun bt111 => (if t110 > a2_2 then (some 16) else (if bt111.1 ≤ a2_2 then (some 16) else (some 0)))) = some r := H
          have A21 := Aside0.mk A210
          clear A210
          replace H := Option.bind_eq_some_iff.mp H
          obtain ⟨⟨t111, t112⟩, A220, H⟩ := H
          replace H : (if t110 > a2_2 then (some 16) else (if t111 ≤ a2_2 then (some 16) else (some 0))) = some r := H
          have A22 := Aside0.mk A220
          clear A220
          by_cases c23 : t110 > a2_2
          · rw [if_pos c23] at H
            have c23b0 : decide (a2_2 < t110) = true := decide_eq_true c23
            clear c23
            obtain rfl := Option.some.inj H
            have hcz24_0 : wc.cell? ⟨gb101, 0, none⟩ = some (.int .i64 a2_0) := (blk_cell BK101.out 0).trans rfl
            have hcz24_1 : wc.cell? ⟨gb101, 1, none⟩ = some (.int .i64 a2_1) := (blk_cell BK101.out 1).trans rfl
            have hcz24_2 : wc.cell? ⟨gb101, 2, none⟩ = some (.int .i64 a2_2) := (blk_cell BK101.out 2).trans rfl
            have hfz24_0 := blk_frozen BK101.out 0
            have hfz24_1 := blk_frozen BK101.out 1
            have hfz24_2 := blk_frozen BK101.out 2
            go_wp2_with (first | ((with_reducible refine gate_callee (f := 104) rfl ?_); refine goesL_ (some 38) rfl rfl Try.func104 (by kernel_rfl) rfl #[.agg #[.int .i64 a2_0, .int .i64 a2_1, .int .i64 a2_2], .slice A0 l0.length c0] rfl (by (try simp only [List.map_toArray, List.map_cons, List.map_nil]); first | done | rfl | (simp only [List.length_drop, List.length_take]; rfl)) ?_; (with_reducible refine (plane_span.calls a2_0 a2_1 a2_2 _ _ l0 t109 t110 _ ?side1 ?side2 A21.out).mono ?_); (case side1 => repeat (first | exact (Kd.V_reads' HO_0.out).2.2 | (with_reducible refine Kd.C_alloc ?_ _) | (with_reducible refine Kd.C_drewN ?_ _) | (with_reducible refine Kd.C_drew ?_))); (case side2 => exact (Kd.V_reads' HO_0.out).2.1); rintro e w25 ⟨rfl, hb⟩; refine ⟨_, rfl, ?_⟩; have n0_ := Aside0.mk (Kd.V_below (by (with_reducible repeat (first | apply Kd.V_alloc | apply Kd.V_drewN | apply Kd.V_drew)); exact HO_0.out) hb); have n1_ := Aside0.mk (Kd.V_below (by (with_reducible repeat (first | apply Kd.V_alloc | apply Kd.V_drewN | apply Kd.V_drew)); exact HO_1.out) hb); have n2_ := Aside0.mk (blk_below (g := gb101) (o := .cells #[.int .i64 a2_0, .int .i64 a2_1, .int .i64 a2_2] 75 (0, 0)) (by (with_reducible repeat (first | refine blk_drewN ?_ _ | refine blk_drew ?_ | refine blk_alloc ?_ _)); exact BK101.out) hb); have n3_ := Aside0.mk (below_step (by repeat (first | (with_reducible first | exact HB.out | apply below_alloc | apply pw_below_drewN | apply below_drew1 | refine below_set ?_ GE101.out) | exact HB.out)) hb); clear HO_0; clear HO_1; clear BK101; clear HB; have HO_0 := n0_; have HO_1 := n1_; have BK101 := n2_; have HB := n3_; clear n0_ n1_ n2_ n3_; (try clear hb); (try clear hb2); (try clear hk); (try clear hi); have hcz26_0 : w25.cell? ⟨gb101, 0, none⟩ = some (.int .i64 a2_0) := (blk_cell BK101.out 0).trans rfl; have hcz26_1 : w25.cell? ⟨gb101, 1, none⟩ = some (.int .i64 a2_1) := (blk_cell BK101.out 1).trans rfl; have hcz26_2 : w25.cell? ⟨gb101, 2, none⟩ = some (.int .i64 a2_2) := (blk_cell BK101.out 2).trans rfl; have hfz26_0 := blk_frozen BK101.out 0; have hfz26_1 := blk_frozen BK101.out 1; have hfz26_2 := blk_frozen BK101.out 2) | ((with_reducible refine gate_callee (f := 104) rfl ?_); refine goesL_ (some 44) rfl rfl Try.func104 (by kernel_rfl) rfl #[.agg #[.int .i64 a2_0, .int .i64 a2_1, .int .i64 a2_2], .slice A1 l1.length c1] rfl (by (try simp only [List.map_toArray, List.map_cons, List.map_nil]); first | done | rfl | (simp only [List.length_drop, List.length_take]; rfl)) ?_; (with_reducible refine (plane_span.calls a2_0 a2_1 a2_2 _ _ l1 t111 t112 _ ?side1 ?side2 A22.out).mono ?_); (case side1 => repeat (first | exact (Kd.V_reads' HO_1.out).2.2 | (with_reducible refine Kd.C_alloc ?_ _) | (with_reducible refine Kd.C_drewN ?_ _) | (with_reducible refine Kd.C_drew ?_))); (case side2 => exact (Kd.V_reads' HO_1.out).2.1); rintro e w27 ⟨rfl, hb⟩; refine ⟨_, rfl, ?_⟩; have n0_ := Aside0.mk (Kd.V_below (by (with_reducible repeat (first | apply Kd.V_alloc | apply Kd.V_drewN | apply Kd.V_drew)); exact HO_0.out) hb); have n1_ := Aside0.mk (Kd.V_below (by (with_reducible repeat (first | apply Kd.V_alloc | apply Kd.V_drewN | apply Kd.V_drew)); exact HO_1.out) hb); have n2_ := Aside0.mk (blk_below (g := gb101) (o := .cells #[.int .i64 a2_0, .int .i64 a2_1, .int .i64 a2_2] 75 (0, 0)) (by (with_reducible repeat (first | refine blk_drewN ?_ _ | refine blk_drew ?_ | refine blk_alloc ?_ _)); exact BK101.out) hb); have n3_ := Aside0.mk (below_step (by repeat (first | (with_reducible first | exact HB.out | apply below_alloc | apply pw_below_drewN | apply below_drew1 | refine below_set ?_ GE101.out) | exact HB.out)) hb); clear HO_0; clear HO_1; clear BK101; clear HB; have HO_0 := n0_; have HO_1 := n1_; have BK101 := n2_; have HB := n3_; clear n0_ n1_ n2_ n3_; (try clear hb); (try clear hb2); (try clear hk); (try clear hi); have hcz28_0 : w27.cell? ⟨gb101, 0, none⟩ = some (.int .i64 a2_0) := (blk_cell BK101.out 0).trans rfl; have hcz28_1 : w27.cell? ⟨gb101, 1, none⟩ = some (.int .i64 a2_1) := (blk_cell BK101.out 1).trans rfl; have hcz28_2 : w27.cell? ⟨gb101, 2, none⟩ = some (.int .i64 a2_2) := (blk_cell BK101.out 2).trans rfl; have hfz28_0 := blk_frozen BK101.out 0; have hfz28_1 := blk_frozen BK101.out 1; have hfz28_2 := blk_frozen BK101.out 2))
            go_ret
            exact ⟨by first | rfl | (simp [errW_none, errW_some] <;> rfl) | (simp [*, errW_none, errW_some] <;> rfl), by repeat (first | (with_reducible first | exact HB.out | apply below_alloc | apply pw_below_drewN | apply below_drew1 | refine below_set ?_ GE101.out) | exact HB.out)⟩
          · rw [if_neg c23] at H
            have c23b0 : decide (a2_2 < t110) = false := decide_eq_false c23
            clear c23
            by_cases c29 : t111 ≤ a2_2
            · rw [if_pos c29] at H
              have c29b0 : decide (t111 ≤ a2_2) = true := decide_eq_true c29
              clear c29
              obtain rfl := Option.some.inj H
              have hcz30_0 : wc.cell? ⟨gb101, 0, none⟩ = some (.int .i64 a2_0) := (blk_cell BK101.out 0).trans rfl
              have hcz30_1 : wc.cell? ⟨gb101, 1, none⟩ = some (.int .i64 a2_1) := (blk_cell BK101.out 1).trans rfl
              have hcz30_2 : wc.cell? ⟨gb101, 2, none⟩ = some (.int .i64 a2_2) := (blk_cell BK101.out 2).trans rfl
              have hfz30_0 := blk_frozen BK101.out 0
              have hfz30_1 := blk_frozen BK101.out 1
              have hfz30_2 := blk_frozen BK101.out 2
              go_wp2_with (first | ((with_reducible refine gate_callee (f := 104) rfl ?_); refine goesL_ (some 38) rfl rfl Try.func104 (by kernel_rfl) rfl #[.agg #[.int .i64 a2_0, .int .i64 a2_1, .int .i64 a2_2], .slice A0 l0.length c0] rfl (by (try simp only [List.map_toArray, List.map_cons, List.map_nil]); first | done | rfl | (simp only [List.length_drop, List.length_take]; rfl)) ?_; (with_reducible refine (plane_span.calls a2_0 a2_1 a2_2 _ _ l0 t109 t110 _ ?side1 ?side2 A21.out).mono ?_); (case side1 => repeat (first | exact (Kd.V_reads' HO_0.out).2.2 | (with_reducible refine Kd.C_alloc ?_ _) | (with_reducible refine Kd.C_drewN ?_ _) | (with_reducible refine Kd.C_drew ?_))); (case side2 => exact (Kd.V_reads' HO_0.out).2.1); rintro e w31 ⟨rfl, hb⟩; refine ⟨_, rfl, ?_⟩; have n0_ := Aside0.mk (Kd.V_below (by (with_reducible repeat (first | apply Kd.V_alloc | apply Kd.V_drewN | apply Kd.V_drew)); exact HO_0.out) hb); have n1_ := Aside0.mk (Kd.V_below (by (with_reducible repeat (first | apply Kd.V_alloc | apply Kd.V_drewN | apply Kd.V_drew)); exact HO_1.out) hb); have n2_ := Aside0.mk (blk_below (g := gb101) (o := .cells #[.int .i64 a2_0, .int .i64 a2_1, .int .i64 a2_2] 75 (0, 0)) (by (with_reducible repeat (first | refine blk_drewN ?_ _ | refine blk_drew ?_ | refine blk_alloc ?_ _)); exact BK101.out) hb); have n3_ := Aside0.mk (below_step (by repeat (first | (with_reducible first | exact HB.out | apply below_alloc | apply pw_below_drewN | apply below_drew1 | refine below_set ?_ GE101.out) | exact HB.out)) hb); clear HO_0; clear HO_1; clear BK101; clear HB; have HO_0 := n0_; have HO_1 := n1_; have BK101 := n2_; have HB := n3_; clear n0_ n1_ n2_ n3_; (try clear hb); (try clear hb2); (try clear hk); (try clear hi); have hcz32_0 : w31.cell? ⟨gb101, 0, none⟩ = some (.int .i64 a2_0) := (blk_cell BK101.out 0).trans rfl; have hcz32_1 : w31.cell? ⟨gb101, 1, none⟩ = some (.int .i64 a2_1) := (blk_cell BK101.out 1).trans rfl; have hcz32_2 : w31.cell? ⟨gb101, 2, none⟩ = some (.int .i64 a2_2) := (blk_cell BK101.out 2).trans rfl; have hfz32_0 := blk_frozen BK101.out 0; have hfz32_1 := blk_frozen BK101.out 1; have hfz32_2 := blk_frozen BK101.out 2) | ((with_reducible refine gate_callee (f := 104) rfl ?_); refine goesL_ (some 44) rfl rfl Try.func104 (by kernel_rfl) rfl #[.agg #[.int .i64 a2_0, .int .i64 a2_1, .int .i64 a2_2], .slice A1 l1.length c1] rfl (by (try simp only [List.map_toArray, List.map_cons, List.map_nil]); first | done | rfl | (simp only [List.length_drop, List.length_take]; rfl)) ?_; (with_reducible refine (plane_span.calls a2_0 a2_1 a2_2 _ _ l1 t111 t112 _ ?side1 ?side2 A22.out).mono ?_); (case side1 => repeat (first | exact (Kd.V_reads' HO_1.out).2.2 | (with_reducible refine Kd.C_alloc ?_ _) | (with_reducible refine Kd.C_drewN ?_ _) | (with_reducible refine Kd.C_drew ?_))); (case side2 => exact (Kd.V_reads' HO_1.out).2.1); rintro e w33 ⟨rfl, hb⟩; refine ⟨_, rfl, ?_⟩; have n0_ := Aside0.mk (Kd.V_below (by (with_reducible repeat (first | apply Kd.V_alloc | apply Kd.V_drewN | apply Kd.V_drew)); exact HO_0.out) hb); have n1_ := Aside0.mk (Kd.V_below (by (with_reducible repeat (first | apply Kd.V_alloc | apply Kd.V_drewN | apply Kd.V_drew)); exact HO_1.out) hb); have n2_ := Aside0.mk (blk_below (g := gb101) (o := .cells #[.int .i64 a2_0, .int .i64 a2_1, .int .i64 a2_2] 75 (0, 0)) (by (with_reducible repeat (first | refine blk_drewN ?_ _ | refine blk_drew ?_ | refine blk_alloc ?_ _)); exact BK101.out) hb); have n3_ := Aside0.mk (below_step (by repeat (first | (with_reducible first | exact HB.out | apply below_alloc | apply pw_below_drewN | apply below_drew1 | refine below_set ?_ GE101.out) | exact HB.out)) hb); clear HO_0; clear HO_1; clear BK101; clear HB; have HO_0 := n0_; have HO_1 := n1_; have BK101 := n2_; have HB := n3_; clear n0_ n1_ n2_ n3_; (try clear hb); (try clear hb2); (try clear hk); (try clear hi); have hcz34_0 : w33.cell? ⟨gb101, 0, none⟩ = some (.int .i64 a2_0) := (blk_cell BK101.out 0).trans rfl; have hcz34_1 : w33.cell? ⟨gb101, 1, none⟩ = some (.int .i64 a2_1) := (blk_cell BK101.out 1).trans rfl; have hcz34_2 : w33.cell? ⟨gb101, 2, none⟩ = some (.int .i64 a2_2) := (blk_cell BK101.out 2).trans rfl; have hfz34_0 := blk_frozen BK101.out 0; have hfz34_1 := blk_frozen BK101.out 1; have hfz34_2 := blk_frozen BK101.out 2))
              go_ret
              exact ⟨by first | rfl | (simp [errW_none, errW_some] <;> rfl) | (simp [*, errW_none, errW_some] <;> rfl), by repeat (first | (with_reducible first | exact HB.out | apply below_alloc | apply pw_below_drewN | apply below_drew1 | refine below_set ?_ GE101.out) | exact HB.out)⟩
            · rw [if_neg c29] at H
              have c29b0 : decide (t111 ≤ a2_2) = false := decide_eq_false c29
              clear c29
              obtain rfl := Option.some.inj H
              have hcz35_0 : wc.cell? ⟨gb101, 0, none⟩ = some (.int .i64 a2_0) := (blk_cell BK101.out 0).trans rfl
              have hcz35_1 : wc.cell? ⟨gb101, 1, none⟩ = some (.int .i64 a2_1) := (blk_cell BK101.out 1).trans rfl
              have hcz35_2 : wc.cell? ⟨gb101, 2, none⟩ = some (.int .i64 a2_2) := (blk_cell BK101.out 2).trans rfl
              have hfz35_0 := blk_frozen BK101.out 0
              have hfz35_1 := blk_frozen BK101.out 1
              have hfz35_2 := blk_frozen BK101.out 2
              go_wp2_with (first | ((with_reducible refine gate_callee (f := 104) rfl ?_); refine goesL_ (some 38) rfl rfl Try.func104 (by kernel_rfl) rfl #[.agg #[.int .i64 a2_0, .int .i64 a2_1, .int .i64 a2_2], .slice A0 l0.length c0] rfl (by (try simp only [List.map_toArray, List.map_cons, List.map_nil]); first | done | rfl | (simp only [List.length_drop, List.length_take]; rfl)) ?_; (with_reducible refine (plane_span.calls a2_0 a2_1 a2_2 _ _ l0 t109 t110 _ ?side1 ?side2 A21.out).mono ?_); (case side1 => repeat (first | exact (Kd.V_reads' HO_0.out).2.2 | (with_reducible refine Kd.C_alloc ?_ _) | (with_reducible refine Kd.C_drewN ?_ _) | (with_reducible refine Kd.C_drew ?_))); (case side2 => exact (Kd.V_reads' HO_0.out).2.1); rintro e w36 ⟨rfl, hb⟩; refine ⟨_, rfl, ?_⟩; have n0_ := Aside0.mk (Kd.V_below (by (with_reducible repeat (first | apply Kd.V_alloc | apply Kd.V_drewN | apply Kd.V_drew)); exact HO_0.out) hb); have n1_ := Aside0.mk (Kd.V_below (by (with_reducible repeat (first | apply Kd.V_alloc | apply Kd.V_drewN | apply Kd.V_drew)); exact HO_1.out) hb); have n2_ := Aside0.mk (blk_below (g := gb101) (o := .cells #[.int .i64 a2_0, .int .i64 a2_1, .int .i64 a2_2] 75 (0, 0)) (by (with_reducible repeat (first | refine blk_drewN ?_ _ | refine blk_drew ?_ | refine blk_alloc ?_ _)); exact BK101.out) hb); have n3_ := Aside0.mk (below_step (by repeat (first | (with_reducible first | exact HB.out | apply below_alloc | apply pw_below_drewN | apply below_drew1 | refine below_set ?_ GE101.out) | exact HB.out)) hb); clear HO_0; clear HO_1; clear BK101; clear HB; have HO_0 := n0_; have HO_1 := n1_; have BK101 := n2_; have HB := n3_; clear n0_ n1_ n2_ n3_; (try clear hb); (try clear hb2); (try clear hk); (try clear hi); have hcz37_0 : w36.cell? ⟨gb101, 0, none⟩ = some (.int .i64 a2_0) := (blk_cell BK101.out 0).trans rfl; have hcz37_1 : w36.cell? ⟨gb101, 1, none⟩ = some (.int .i64 a2_1) := (blk_cell BK101.out 1).trans rfl; have hcz37_2 : w36.cell? ⟨gb101, 2, none⟩ = some (.int .i64 a2_2) := (blk_cell BK101.out 2).trans rfl; have hfz37_0 := blk_frozen BK101.out 0; have hfz37_1 := blk_frozen BK101.out 1; have hfz37_2 := blk_frozen BK101.out 2) | ((with_reducible refine gate_callee (f := 104) rfl ?_); refine goesL_ (some 44) rfl rfl Try.func104 (by kernel_rfl) rfl #[.agg #[.int .i64 a2_0, .int .i64 a2_1, .int .i64 a2_2], .slice A1 l1.length c1] rfl (by (try simp only [List.map_toArray, List.map_cons, List.map_nil]); first | done | rfl | (simp only [List.length_drop, List.length_take]; rfl)) ?_; (with_reducible refine (plane_span.calls a2_0 a2_1 a2_2 _ _ l1 t111 t112 _ ?side1 ?side2 A22.out).mono ?_); (case side1 => repeat (first | exact (Kd.V_reads' HO_1.out).2.2 | (with_reducible refine Kd.C_alloc ?_ _) | (with_reducible refine Kd.C_drewN ?_ _) | (with_reducible refine Kd.C_drew ?_))); (case side2 => exact (Kd.V_reads' HO_1.out).2.1); rintro e w38 ⟨rfl, hb⟩; refine ⟨_, rfl, ?_⟩; have n0_ := Aside0.mk (Kd.V_below (by (with_reducible repeat (first | apply Kd.V_alloc | apply Kd.V_drewN | apply Kd.V_drew)); exact HO_0.out) hb); have n1_ := Aside0.mk (Kd.V_below (by (with_reducible repeat (first | apply Kd.V_alloc | apply Kd.V_drewN | apply Kd.V_drew)); exact HO_1.out) hb); have n2_ := Aside0.mk (blk_below (g := gb101) (o := .cells #[.int .i64 a2_0, .int .i64 a2_1, .int .i64 a2_2] 75 (0, 0)) (by (with_reducible repeat (first | refine blk_drewN ?_ _ | refine blk_drew ?_ | refine blk_alloc ?_ _)); exact BK101.out) hb); have n3_ := Aside0.mk (below_step (by repeat (first | (with_reducible first | exact HB.out | apply below_alloc | apply pw_below_drewN | apply below_drew1 | refine below_set ?_ GE101.out) | exact HB.out)) hb); clear HO_0; clear HO_1; clear BK101; clear HB; have HO_0 := n0_; have HO_1 := n1_; have BK101 := n2_; have HB := n3_; clear n0_ n1_ n2_ n3_; (try clear hb); (try clear hb2); (try clear hk); (try clear hi); have hcz39_0 : w38.cell? ⟨gb101, 0, none⟩ = some (.int .i64 a2_0) := (blk_cell BK101.out 0).trans rfl; have hcz39_1 : w38.cell? ⟨gb101, 1, none⟩ = some (.int .i64 a2_1) := (blk_cell BK101.out 1).trans rfl; have hcz39_2 : w38.cell? ⟨gb101, 2, none⟩ = some (.int .i64 a2_2) := (blk_cell BK101.out 2).trans rfl; have hfz39_0 := blk_frozen BK101.out 0; have hfz39_1 := blk_frozen BK101.out 1; have hfz39_2 := blk_frozen BK101.out 2))
              go_ret
              exact ⟨by first | rfl | (simp [errW_none, errW_some] <;> rfl) | (simp [*, errW_none, errW_some] <;> rfl), by repeat (first | (with_reducible first | exact HB.out | apply below_alloc | apply pw_below_drewN | apply below_drew1 | refine below_set ?_ GE101.out) | exact HB.out)⟩
  · rw [if_neg c5] at H
    have c5b0 : (t105 == 0) = false := beq_eq_false_iff_ne.mpr c5
    have c5b1 : (t105 != 0) = true := bne_iff_ne.mpr c5
    obtain rfl := Option.some.inj H
    go_enter Try.func62, Try.ntmps62
    go_wp2_with (first | ((with_reducible refine gate_dst (N := 5) rfl ?_); refine box_event ?hg (N := 5) ?hd (cs := #[.int .i64 a2_0, .int .i64 a2_1, .int .i64 a2_2]) (t := 75) ?hr ?_; (case hd => rfl); (case hg => rfl); (case hr => first | (go_simp; done) | (go_simp; rfl)); intro gb101 hg w40 hbox hb; have n0_ := Aside0.mk (Kd.V_below (Kd.V_elderB (by (with_reducible repeat (first | apply Kd.V_alloc | apply Kd.V_drewN | apply Kd.V_drew)); exact HO0.out) gb101 (Nat.le_of_eq hg.symm)) hb); have n1_ := Aside0.mk (Kd.V_below (Kd.V_elderB (by (with_reducible repeat (first | apply Kd.V_alloc | apply Kd.V_drewN | apply Kd.V_drew)); exact HO1.out) gb101 (Nat.le_of_eq hg.symm)) hb); have n2_ := Aside0.mk (below_step (by repeat (first | (with_reducible first | exact HB.out | apply below_alloc | apply pw_below_drewN | apply below_drew1) | exact HB.out)) hb); have n3_ := Aside0.mk (hbox); have n4_ := Aside0.mk ((by rw [hg]; exact (below_size (by repeat (first | (with_reducible first | exact HB.out | apply below_alloc | apply pw_below_drewN | apply below_drew1) | exact HB.out))) : w.heap.size ≤ gb101)); have n5_ := Aside0.mk ((by rw [hg]; exact (below_size (by repeat (first | (with_reducible first | exact HB.out | apply below_alloc | apply pw_below_drewN | apply below_drew1) | exact HB.out))) : w.heap.size ≤ gb101)); clear HO0; clear HO1; clear HB; have HO0 := n0_; have HO1 := n1_; have HB := n2_; have BK101 := n3_; have GW101 := n4_; have GE101 := n5_; clear n0_ n1_ n2_ n3_ n4_ n5_; clear hb hbox hg) | ((with_reducible refine gate_dst (N := 14) rfl ?_); refine Kd.N_lit (Kd.slice 23 k23) _ 53 ?hg (N' := 14) ?hd (xs := ([l0, l1] : List (List (S23)))) (inner := [.slice A0 l0.length c0, .slice A1 l1.length c1]) (ok := (fun k_ => ((P0_ k_ ∨ P1_ k_) ∨ w.heap.size ≤ k_) ∧ k_ ≠ gb101)) (okp := (fun k_ => ((P0_ k_ ∨ P1_ k_) ∨ w.heap.size ≤ k_) ∧ k_ ≠ gb101)) ?hr ?hp (fun _ hk => hk) ((show ∀ k_, w40.heap.size ≤ k_ → (fun k_ => ((P0_ k_ ∨ P1_ k_) ∨ w.heap.size ≤ k_) ∧ k_ ≠ gb101) k_ from fun k_ hk => ⟨(.inr (Nat.le_trans (below_size (by repeat (first | (with_reducible first | exact HB.out | apply below_alloc | apply pw_below_drewN | apply below_drew1 | refine below_set ?_ GE101.out) | exact HB.out))) hk)), Kd.freshB (g := gb101) (o := .cells #[.int .i64 a2_0, .int .i64 a2_1, .int .i64 a2_2] 75 (0, 0)) (by (with_reducible repeat (first | refine blk_drewN ?_ _ | refine blk_drew ?_ | refine blk_alloc ?_ _)); exact BK101.out) k_ hk⟩) _ (Nat.le_refl _)) (Below.refl _ _) (Nat.le_refl _) (by simp) ?_; (case hd => rfl); (case hg => rfl); (case hr => first | (go_simp; done) | (go_simp; rfl)); (case hp => exact (Reps.one (show Kd.FK (Kd.slice 23 k23) _ _ l0 [.slice A0 l0.length c0] from (Kd.FK_slice_mk (Kd.V_reads' (Kd.V_mono (ok' := (fun k_ => ((P0_ k_ ∨ P1_ k_) ∨ w.heap.size ≤ k_) ∧ k_ ≠ gb101)) (HO0.out) (fun k_ hk => ⟨hk.1, hk.2⟩))).2.1 (Kd.V_F (Kd.V_mono (ok' := (fun k_ => ((P0_ k_ ∨ P1_ k_) ∨ w.heap.size ≤ k_) ∧ k_ ≠ gb101)) (HO0.out) (fun k_ hk => ⟨hk.1, hk.2⟩))))) (Reps.one (show Kd.FK (Kd.slice 23 k23) _ _ l1 [.slice A1 l1.length c1] from (Kd.FK_slice_mk (Kd.V_reads' (Kd.V_mono (ok' := (fun k_ => ((P0_ k_ ∨ P1_ k_) ∨ w.heap.size ≤ k_) ∧ k_ ≠ gb101)) (HO1.out) (fun k_ hk => ⟨hk.1, hk.2⟩))).2.1 (Kd.V_F (Kd.V_mono (ok' := (fun k_ => ((P0_ k_ ∨ P1_ k_) ∨ w.heap.size ≤ k_) ∧ k_ ≠ gb101)) (HO1.out) (fun k_ hk => ⟨hk.1, hk.2⟩))))) (Reps.none _ _)))); intro v103 w41 ho42 hb hg_ hnew_; clear hg_ hnew_; (first | rw [← Ny102.out] at ho42 | (simp only [Int.reduceToNat] at ho42; rw [← Ny102.out] at ho42)); have n0_ := Aside0.mk (Kd.V_elder' (by (with_reducible repeat (first | apply Kd.V_alloc | apply Kd.V_drewN | apply Kd.V_drew)); exact HO0.out) (Kd.N_base ho42) hb); have n1_ := Aside0.mk (Kd.V_elder' (by (with_reducible repeat (first | apply Kd.V_alloc | apply Kd.V_drewN | apply Kd.V_drew)); exact HO1.out) (Kd.N_base ho42) hb); have n2_ := Aside0.mk (Kd.N_lower ho42 (below_size (by repeat (first | (with_reducible first | exact HB.out | apply below_alloc | apply pw_below_drewN | apply below_drew1 | refine below_set ?_ GE101.out) | exact HB.out)))); have n3_ := Aside0.mk (blk_below (g := gb101) (o := .cells #[.int .i64 a2_0, .int .i64 a2_1, .int .i64 a2_2] 75 (0, 0)) (by (with_reducible repeat (first | refine blk_drewN ?_ _ | refine blk_drew ?_ | refine blk_alloc ?_ _)); exact BK101.out) hb); have n4_ := Aside0.mk (below_step (by repeat (first | (with_reducible first | exact HB.out | apply below_alloc | apply pw_below_drewN | apply below_drew1 | refine below_set ?_ GE101.out) | exact HB.out)) hb); clear HO0; clear HO1; clear BK101; clear HB; have HO0 := n0_; have HO1 := n1_; have HO104 := n2_; have BK101 := n3_; have HB := n4_; clear n0_ n1_ n2_ n3_ n4_; clear hb ho42; obtain ⟨Ao43, co43, eo43⟩ := Kd.N_slice HO104.out; subst eo43) | ((with_reducible refine gate_callee (f := 94) rfl ?_); refine goesL_ (some 15) rfl rfl Try.func94 (by kernel_rfl) rfl #[.slice Ao43 y102.length co43] rfl (by (try simp only [List.map_toArray, List.map_cons, List.map_nil]); first | done | rfl | (simp only [List.length_drop, List.length_take]; rfl)) ?_; (with_reducible refine (plane_checkHulls.calls _ _ y102 t105 _ ?side1 ?side2 A4.out).mono ?_); (case side1 => repeat (first | exact (Kd.N_reads' HO104.out).2.2 | (with_reducible refine Kd.C_alloc ?_ _) | (with_reducible refine Kd.C_drewN ?_ _) | (with_reducible refine Kd.C_drew ?_))); (case side2 => exact (Kd.N_reads' HO104.out).2.1); rintro e w44 ⟨rfl, hb⟩; refine ⟨_, rfl, ?_⟩; have n0_ := Aside0.mk (Kd.V_below (by (with_reducible repeat (first | apply Kd.V_alloc | apply Kd.V_drewN | apply Kd.V_drew)); exact HO0.out) hb); have n1_ := Aside0.mk (Kd.V_below (by (with_reducible repeat (first | apply Kd.V_alloc | apply Kd.V_drewN | apply Kd.V_drew)); exact HO1.out) hb); have n2_ := Aside0.mk (Kd.N_below (by (with_reducible repeat (first | apply Kd.N_alloc | apply Kd.N_drewN | apply Kd.N_drew)); exact HO104.out) hb); have n3_ := Aside0.mk (blk_below (g := gb101) (o := .cells #[.int .i64 a2_0, .int .i64 a2_1, .int .i64 a2_2] 75 (0, 0)) (by (with_reducible repeat (first | refine blk_drewN ?_ _ | refine blk_drew ?_ | refine blk_alloc ?_ _)); exact BK101.out) hb); have n4_ := Aside0.mk (below_step (by repeat (first | (with_reducible first | exact HB.out | apply below_alloc | apply pw_below_drewN | apply below_drew1 | refine below_set ?_ GE101.out) | exact HB.out)) hb); clear HO0; clear HO1; clear HO104; clear BK101; clear HB; have HO0 := n0_; have HO1 := n1_; have HO104 := n2_; have BK101 := n3_; have HB := n4_; clear n0_ n1_ n2_ n3_ n4_; (try clear hb); (try clear hb2); (try clear hk); (try clear hi)))
    go_ret
    exact ⟨by first | rfl | (simp [errW_none, errW_some] <;> rfl) | (simp [*, errW_none, errW_some] <;> rfl), by repeat (first | (with_reducible first | exact HB.out | apply below_alloc | apply pw_below_drewN | apply below_drew1 | refine below_set ?_ GE101.out) | exact HB.out)⟩
end Go.Proofs.Ytegdcnjjelgpjaa.P
namespace Go.Proofs.Ytegdcnjjelgpjaa.P
open Go.RowKit Go.Proofs.YtegdcnjjelgpjaaW.PrintWords Go.Proofs.YtegdcnjjelgpjaaW.PrintLast Go.Proofs.YtegdcnjjelgpjaaW.PrintMore
attribute [local go_sem] max2_int min2_int max_two min_two max_three min_three max_four min_four   -- for this text's walks alone
set_option linter.unusedVariables false
set_option linter.unusedSimpArgs false
def plane_Part.f (l0 : List (S23)) (l1 : List (S23)) : Option (Int × Int × Int × Int) := (plane_checkHulls.f (([l0, l1] : List (List (S23))))).bind fun t105 => (if t105 = 0 then ((plane_part.f l0 l1).bind fun bt106 => (if bt106.2.2.2 = true then (some (bt106.1, bt106.2.1, bt106.2.2.1, 0)) else (some (0, 0, 0, 5)))) else (some (0, 0, 0, t105)))
set_option maxHeartbeats 8000000 in
set_option maxRecDepth 100000 in
theorem plane_Part.calls (P0_ : Nat → Prop) (A0 : Option Addr) (c0 : Nat) (l0 : List (S23)) (P1_ : Nat → Prop) (A1 : Option Addr) (c1 : Nat) (l1 : List (S23)) (r1 : Int) (r2 : Int) (r3 : Int) (r4 : Int) (w : World) (hs0 : Kd.V k23 23 w w.heap.size (fun k_ => P0_ k_) (.slice A0 l0.length c0) l0) (hs1 : Kd.V k23 23 w w.heap.size (fun k_ => P1_ k_) (.slice A1 l1.length c1) l1) (h : plane_Part.f l0 l1 = some (r1, r2, r3, r4)) :
    Calls Try.prog 64 #[.slice A0 l0.length c0, .slice A1 l1.length c1] w fun e w' => e = .returned (.tuple #[.agg #[.int .i64 r1, .int .i64 r2, .int .i64 r3], .int .i64 r4]) ∧ Below w.heap.size w w' := by
  have hu75 := Try.underlying75
  have HO0 := Aside0.mk (show Kd.V k23 23 w w.heap.size (fun k_ => ((P0_ k_ ∨ P1_ k_) ∨ w.heap.size ≤ k_)) (.slice A0 l0.length c0) l0 from Kd.V_mono hs0 (fun k_ hk => .inl (.inl hk)))
  have HO1 := Aside0.mk (show Kd.V k23 23 w w.heap.size (fun k_ => ((P0_ k_ ∨ P1_ k_) ∨ w.heap.size ≤ k_)) (.slice A1 l1.length c1) l1 from Kd.V_mono hs1 (fun k_ hk => .inl (.inr hk)))
  have HB := Aside0.mk (Below.refl w.heap.size w)
  have H : ((plane_checkHulls.f (([l0, l1] : List (List (S23))))).bind fun t105 => (if t105 = 0 then ((plane_part.f l0 l1).bind fun bt106 => (if bt106.2.2.2 = true then (some (bt106.1, bt106.2.1, bt106.2.2.1, 0)) else (some (0, 0, 0, 5)))) else (some (0, 0, 0, t105)))) = some (r1, r2, r3, r4) := h
  clear h
  obtain ⟨y102, hy102⟩ : ∃ y_ : List (List (S23)), y_ = (([l0, l1] : List (List (S23)))) := ⟨_, rfl⟩
  replace H : ((plane_checkHulls.f y102).bind fun t105 => (if t105 = 0 then ((plane_part.f l0 l1).bind fun bt106 => (if bt106.2.2.2 = true then (some (bt106.1, bt106.2.1, bt106.2.2.1, 0)) else (some (0, 0, 0, 5)))) else (some (0, 0, 0, t105)))) = some (r1, r2, r3, r4) := by first | (rw [hy102]; with_reducible exact H) | (have H2_ := (Option.bind_some _ _).symm.trans H; rw [hy102]; with_reducible exact H2_) | (have H2_ := (Option.bind_some _ _).symm.trans H; with_reducible exact H2_) | with_reducible exact H | (rw [hy102]; exact H) | exact H
  have Ny102 := Aside0.mk hy102
  clear hy102
  replace H := Option.bind_eq_some_iff.mp H
  obtain ⟨t105, A30, H⟩ := H
  replace H : (if t105 = 0 then ((plane_part.f l0 l1).bind fun bt106 => (if bt106.2.2.2 = true then (some (bt106.1, bt106.2.1, bt106.2.2.1, 0)) else (some (0, 0, 0, 5)))) else (some (0, 0, 0, t105))) = some (r1, r2, r3, r4) := H
  have A3 := Aside0.mk A30
  clear A30
  by_cases c4 : t105 = 0
  · rw [if_pos c4] at H
    have c4b0 : (t105 == 0) = true := beq_iff_eq.mpr c4
    have c4b1 : (t105 != 0) = false := bne_eq_false_iff_eq.mpr c4
    clear c4
    replace H := Option.bind_eq_some_iff.mp H
    obtain ⟨⟨t106, t107, t108, t109⟩, A50, H⟩ := H
    replace H : (if t109 = true then (some (t106, t107, t108, 0)) else (some (0, 0, 0, 5))) = some (r1, r2, r3, r4) := H
    have A5 := Aside0.mk A50
    clear A50
    by_cases c6 : t109 = true
    · subst c6
      have H1 : (some (t106, t107, t108, 0)) = some (r1, r2, r3, r4) := by rw [if_pos rfl] at H; exact H
      clear H
      have H := H1
      clear H1
      simp only [Option.some.injEq, Prod.mk.injEq] at H
      obtain ⟨rfl, rfl, rfl, rfl⟩ := H
      go_enter Try.func64, Try.ntmps64
      go_wp2_with (first | ((with_reducible refine gate_dst (N := 4) rfl ?_); refine box_event ?hg (N := 4) ?hd (cs := #[.int .i64 0, .int .i64 0, .int .i64 0]) (t := 75) ?hr ?_; (case hd => rfl); (case hg => rfl); (case hr => first | (go_simp; done) | (go_simp; rfl)); intro gb101 hg w7 hbox hb; have n0_ := Aside0.mk (Kd.V_below (Kd.V_elderB (by (with_reducible repeat (first | apply Kd.V_alloc | apply Kd.V_drewN | apply Kd.V_drew)); exact HO0.out) gb101 (Nat.le_of_eq hg.symm)) hb); have n1_ := Aside0.mk (Kd.V_below (Kd.V_elderB (by (with_reducible repeat (first | apply Kd.V_alloc | apply Kd.V_drewN | apply Kd.V_drew)); exact HO1.out) gb101 (Nat.le_of_eq hg.symm)) hb); have n2_ := Aside0.mk (below_step (by repeat (first | (with_reducible first | exact HB.out | apply below_alloc | apply pw_below_drewN | apply below_drew1) | exact HB.out)) hb); have n3_ := Aside0.mk (hbox); have n4_ := Aside0.mk ((by rw [hg]; exact (below_size (by repeat (first | (with_reducible first | exact HB.out | apply below_alloc | apply pw_below_drewN | apply below_drew1) | exact HB.out))) : w.heap.size ≤ gb101)); have n5_ := Aside0.mk ((by rw [hg]; exact (below_size (by repeat (first | (with_reducible first | exact HB.out | apply below_alloc | apply pw_below_drewN | apply below_drew1) | exact HB.out))) : w.heap.size ≤ gb101)); clear HO0; clear HO1; clear HB; have HO0 := n0_; have HO1 := n1_; have HB := n2_; have BK101 := n3_; have GW101 := n4_; have GE101 := n5_; clear n0_ n1_ n2_ n3_ n4_ n5_; clear hb hbox hg) | ((with_reducible refine gate_dst (N := 11) rfl ?_); refine Kd.N_lit (Kd.slice 23 k23) _ 53 ?hg (N' := 11) ?hd (xs := ([l0, l1] : List (List (S23)))) (inner := [.slice A0 l0.length c0, .slice A1 l1.length c1]) (ok := (fun k_ => ((P0_ k_ ∨ P1_ k_) ∨ w.heap.size ≤ k_) ∧ k_ ≠ gb101)) (okp := (fun k_ => ((P0_ k_ ∨ P1_ k_) ∨ w.heap.size ≤ k_) ∧ k_ ≠ gb101)) ?hr ?hp (fun _ hk => hk) ((show ∀ k_, w7.heap.size ≤ k_ → (fun k_ => ((P0_ k_ ∨ P1_ k_) ∨ w.heap.size ≤ k_) ∧ k_ ≠ gb101) k_ from fun k_ hk => ⟨(.inr (Nat.le_trans (below_size (by repeat (first | (with_reducible first | exact HB.out | apply below_alloc | apply pw_below_drewN | apply below_drew1 | refine below_set ?_ GE101.out) | exact HB.out))) hk)), Kd.freshB (g := gb101) (o := .cells #[.int .i64 0, .int .i64 0, .int .i64 0] 75 (0, 0)) (by (with_reducible repeat (first | refine blk_drewN ?_ _ | refine blk_drew ?_ | refine blk_alloc ?_ _)); exact BK101.out) k_ hk⟩) _ (Nat.le_refl _)) (Below.refl _ _) (Nat.le_refl _) (by simp) ?_; (case hd => rfl); (case hg => rfl); (case hr => first | (go_simp; done) | (go_simp; rfl)); (case hp => exact (Reps.one (show Kd.FK (Kd.slice 23 k23) _ _ l0 [.slice A0 l0.length c0] from (Kd.FK_slice_mk (Kd.V_reads' (Kd.V_mono (ok' := (fun k_ => ((P0_ k_ ∨ P1_ k_) ∨ w.heap.size ≤ k_) ∧ k_ ≠ gb101)) (HO0.out) (fun k_ hk => ⟨hk.1, hk.2⟩))).2.1 (Kd.V_F (Kd.V_mono (ok' := (fun k_ => ((P0_ k_ ∨ P1_ k_) ∨ w.heap.size ≤ k_) ∧ k_ ≠ gb101)) (HO0.out) (fun k_ hk => ⟨hk.1, hk.2⟩))))) (Reps.one (show Kd.FK (Kd.slice 23 k23) _ _ l1 [.slice A1 l1.length c1] from (Kd.FK_slice_mk (Kd.V_reads' (Kd.V_mono (ok' := (fun k_ => ((P0_ k_ ∨ P1_ k_) ∨ w.heap.size ≤ k_) ∧ k_ ≠ gb101)) (HO1.out) (fun k_ hk => ⟨hk.1, hk.2⟩))).2.1 (Kd.V_F (Kd.V_mono (ok' := (fun k_ => ((P0_ k_ ∨ P1_ k_) ∨ w.heap.size ≤ k_) ∧ k_ ≠ gb101)) (HO1.out) (fun k_ hk => ⟨hk.1, hk.2⟩))))) (Reps.none _ _)))); intro v103 w8 ho9 hb hg_ hnew_; clear hg_ hnew_; (first | rw [← Ny102.out] at ho9 | (simp only [Int.reduceToNat] at ho9; rw [← Ny102.out] at ho9)); have n0_ := Aside0.mk (Kd.V_elder' (by (with_reducible repeat (first | apply Kd.V_alloc | apply Kd.V_drewN | apply Kd.V_drew)); exact HO0.out) (Kd.N_base ho9) hb); have n1_ := Aside0.mk (Kd.V_elder' (by (with_reducible repeat (first | apply Kd.V_alloc | apply Kd.V_drewN | apply Kd.V_drew)); exact HO1.out) (Kd.N_base ho9) hb); have n2_ := Aside0.mk (Kd.N_lower ho9 (below_size (by repeat (first | (with_reducible first | exact HB.out | apply below_alloc | apply pw_below_drewN | apply below_drew1 | refine below_set ?_ GE101.out) | exact HB.out)))); have n3_ := Aside0.mk (blk_below (g := gb101) (o := .cells #[.int .i64 0, .int .i64 0, .int .i64 0] 75 (0, 0)) (by (with_reducible repeat (first | refine blk_drewN ?_ _ | refine blk_drew ?_ | refine blk_alloc ?_ _)); exact BK101.out) hb); have n4_ := Aside0.mk (below_step (by repeat (first | (with_reducible first | exact HB.out | apply below_alloc | apply pw_below_drewN | apply below_drew1 | refine below_set ?_ GE101.out) | exact HB.out)) hb); clear HO0; clear HO1; clear BK101; clear HB; have HO0 := n0_; have HO1 := n1_; have HO104 := n2_; have BK101 := n3_; have HB := n4_; clear n0_ n1_ n2_ n3_ n4_; clear hb ho9; obtain ⟨Ao10, co10, eo10⟩ := Kd.N_slice HO104.out; subst eo10) | ((with_reducible refine gate_callee (f := 94) rfl ?_); refine goesL_ (some 12) rfl rfl Try.func94 (by kernel_rfl) rfl #[.slice Ao10 y102.length co10] rfl (by (try simp only [List.map_toArray, List.map_cons, List.map_nil]); first | done | rfl | (simp only [List.length_drop, List.length_take]; rfl)) ?_; (with_reducible refine (plane_checkHulls.calls _ _ y102 t105 _ ?side1 ?side2 A3.out).mono ?_); (case side1 => repeat (first | exact (Kd.N_reads' HO104.out).2.2 | (with_reducible refine Kd.C_alloc ?_ _) | (with_reducible refine Kd.C_drewN ?_ _) | (with_reducible refine Kd.C_drew ?_))); (case side2 => exact (Kd.N_reads' HO104.out).2.1); rintro e w11 ⟨rfl, hb⟩; refine ⟨_, rfl, ?_⟩; have n0_ := Aside0.mk (Kd.V_below (by (with_reducible repeat (first | apply Kd.V_alloc | apply Kd.V_drewN | apply Kd.V_drew)); exact HO0.out) hb); have n1_ := Aside0.mk (Kd.V_below (by (with_reducible repeat (first | apply Kd.V_alloc | apply Kd.V_drewN | apply Kd.V_drew)); exact HO1.out) hb); have n2_ := Aside0.mk (Kd.N_below (by (with_reducible repeat (first | apply Kd.N_alloc | apply Kd.N_drewN | apply Kd.N_drew)); exact HO104.out) hb); have n3_ := Aside0.mk (blk_below (g := gb101) (o := .cells #[.int .i64 0, .int .i64 0, .int .i64 0] 75 (0, 0)) (by (with_reducible repeat (first | refine blk_drewN ?_ _ | refine blk_drew ?_ | refine blk_alloc ?_ _)); exact BK101.out) hb); have n4_ := Aside0.mk (below_step (by repeat (first | (with_reducible first | exact HB.out | apply below_alloc | apply pw_below_drewN | apply below_drew1 | refine below_set ?_ GE101.out) | exact HB.out)) hb); clear HO0; clear HO1; clear HO104; clear BK101; clear HB; have HO0 := n0_; have HO1 := n1_; have HO104 := n2_; have BK101 := n3_; have HB := n4_; clear n0_ n1_ n2_ n3_ n4_; (try clear hb); (try clear hb2); (try clear hk); (try clear hi)) | ((with_reducible refine gate_callee (f := 106) rfl ?_); refine goesL_ (some 20) rfl rfl Try.func106 (by kernel_rfl) rfl #[.slice A0 l0.length c0, .slice A1 l1.length c1] rfl (by (try simp only [List.map_toArray, List.map_cons, List.map_nil]); first | done | rfl | (simp only [List.length_drop, List.length_take]; rfl)) ?_; (with_reducible refine (plane_part.calls _ _ l0 _ _ l1 t106 t107 t108 true _ ?side1 ?side2 ?side3 ?side4 A5.out).mono ?_); (case side1 => repeat (first | exact (Kd.V_reads' HO0.out).2.2 | (with_reducible refine Kd.C_alloc ?_ _) | (with_reducible refine Kd.C_drewN ?_ _) | (with_reducible refine Kd.C_drew ?_))); (case side2 => exact (Kd.V_reads' HO0.out).2.1); (case side3 => repeat (first | exact (Kd.V_reads' HO1.out).2.2 | (with_reducible refine Kd.C_alloc ?_ _) | (with_reducible refine Kd.C_drewN ?_ _) | (with_reducible refine Kd.C_drew ?_))); (case side4 => exact (Kd.V_reads' HO1.out).2.1); rintro e w12 ⟨rfl, hb⟩; refine ⟨_, rfl, ?_⟩; have n0_ := Aside0.mk (Kd.V_below (by (with_reducible repeat (first | apply Kd.V_alloc | apply Kd.V_drewN | apply Kd.V_drew)); exact HO0.out) hb); have n1_ := Aside0.mk (Kd.V_below (by (with_reducible repeat (first | apply Kd.V_alloc | apply Kd.V_drewN | apply Kd.V_drew)); exact HO1.out) hb); have n2_ := Aside0.mk (Kd.N_below (by (with_reducible repeat (first | apply Kd.N_alloc | apply Kd.N_drewN | apply Kd.N_drew)); exact HO104.out) hb); have n3_ := Aside0.mk (blk_below (g := gb101) (o := .cells #[.int .i64 0, .int .i64 0, .int .i64 0] 75 (0, 0)) (by (with_reducible repeat (first | refine blk_drewN ?_ _ | refine blk_drew ?_ | refine blk_alloc ?_ _)); exact BK101.out) hb); have n4_ := Aside0.mk (below_step (by repeat (first | (with_reducible first | exact HB.out | apply below_alloc | apply pw_below_drewN | apply below_drew1 | refine below_set ?_ GE101.out) | exact HB.out)) hb); clear HO0; clear HO1; clear HO104; clear BK101; clear HB; have HO0 := n0_; have HO1 := n1_; have HO104 := n2_; have BK101 := n3_; have HB := n4_; clear n0_ n1_ n2_ n3_ n4_; (try clear hb); (try clear hb2); (try clear hk); (try clear hi)) | ((with_reducible refine gate_dst (N := 7) rfl ?_); refine box_event ?hg (N := 7) ?hd (cs := #[.int .i64 0, .int .i64 0, .int .i64 0]) (t := 75) ?hr ?_; (case hd => rfl); (case hg => rfl); (case hr => first | (go_simp; done) | (go_simp; rfl)); intro gb110 hg w13 hbox hb; have n0_ := Aside0.mk (Kd.V_below (Kd.V_elderB (by (with_reducible repeat (first | apply Kd.V_alloc | apply Kd.V_drewN | apply Kd.V_drew)); exact HO0.out) gb110 (Nat.le_of_eq hg.symm)) hb); have n1_ := Aside0.mk (Kd.V_below (Kd.V_elderB (by (with_reducible repeat (first | apply Kd.V_alloc | apply Kd.V_drewN | apply Kd.V_drew)); exact HO1.out) gb110 (Nat.le_of_eq hg.symm)) hb); have n2_ := Aside0.mk (Kd.N_below (Kd.N_elderB (by (with_reducible repeat (first | apply Kd.N_alloc | apply Kd.N_drewN | apply Kd.N_drew)); exact HO104.out) gb110 (Nat.le_of_eq hg.symm)) hb); have n3_ := Aside0.mk (blk_below (g := gb101) (o := .cells #[.int .i64 0, .int .i64 0, .int .i64 0] 75 (0, 0)) (by (with_reducible repeat (first | refine blk_drewN ?_ _ | refine blk_drew ?_ | refine blk_alloc ?_ _)); exact BK101.out) hb); have n4_ := Aside0.mk (below_step (by repeat (first | (with_reducible first | exact HB.out | apply below_alloc | apply pw_below_drewN | apply below_drew1 | refine below_set ?_ GE101.out) | exact HB.out)) hb); have n5_ := Aside0.mk (hbox); have n6_ := Aside0.mk ((by rw [hg]; exact (below_size (by repeat (first | (with_reducible first | exact HB.out | apply below_alloc | apply pw_below_drewN | apply below_drew1 | refine below_set ?_ GE101.out) | exact HB.out))) : w.heap.size ≤ gb110)); have n7_ := Aside0.mk ((by rw [hg]; exact (below_size (by repeat (first | (with_reducible first | exact HB.out | apply below_alloc | apply pw_below_drewN | apply below_drew1 | refine below_set ?_ GE101.out) | exact HB.out))) : w.heap.size ≤ gb110)); have n8_ := Aside0.mk ((by rw [hg]; exact Nat.ne_of_lt (blk_lt (g := gb101) (o := .cells #[.int .i64 0, .int .i64 0, .int .i64 0] 75 (0, 0)) (by (with_reducible repeat (first | refine blk_drewN ?_ _ | refine blk_drew ?_ | refine blk_alloc ?_ _)); exact BK101.out)) : gb101 ≠ gb110)); have n9_ := Aside0.mk ((by rw [hg]; exact Nat.ne_of_gt (blk_lt (g := gb101) (o := .cells #[.int .i64 0, .int .i64 0, .int .i64 0] 75 (0, 0)) (by (with_reducible repeat (first | refine blk_drewN ?_ _ | refine blk_drew ?_ | refine blk_alloc ?_ _)); exact BK101.out)) : gb110 ≠ gb101)); clear HO0; clear HO1; clear HO104; clear BK101; clear HB; have HO0 := n0_; have HO1 := n1_; have HO104 := n2_; have BK101 := n3_; have HB := n4_; have BK110 := n5_; have GW110 := n6_; have GE110 := n7_; have NB101_110 := n8_; have NB110_101 := n9_; clear n0_ n1_ n2_ n3_ n4_ n5_ n6_ n7_ n8_ n9_; clear hb hbox hg; have hnb14 := NB110_101.out; have hnc14 := NB101_110.out; have hcz15_0 : w13.cell? ⟨gb110, 0, none⟩ = some (.int .i64 0) := (blk_cell BK110.out 0).trans rfl; have hcz15_1 : w13.cell? ⟨gb110, 1, none⟩ = some (.int .i64 0) := (blk_cell BK110.out 1).trans rfl; have hcz15_2 : w13.cell? ⟨gb110, 2, none⟩ = some (.int .i64 0) := (blk_cell BK110.out 2).trans rfl; have hfz15_0 := blk_frozen BK110.out 0; have hfz15_1 := blk_frozen BK110.out 1; have hfz15_2 := blk_frozen BK110.out 2; have hcz16_0 : w13.cell? ⟨gb101, 0, none⟩ = some (.int .i64 0) := (blk_cell BK101.out 0).trans rfl; have hcz16_1 : w13.cell? ⟨gb101, 1, none⟩ = some (.int .i64 0) := (blk_cell BK101.out 1).trans rfl; have hcz16_2 : w13.cell? ⟨gb101, 2, none⟩ = some (.int .i64 0) := (blk_cell BK101.out 2).trans rfl; have hfz16_0 := blk_frozen BK101.out 0; have hfz16_1 := blk_frozen BK101.out 1; have hfz16_2 := blk_frozen BK101.out 2))
      refine bodyPost_ret (results_ct rfl _ _ gb101 75 #[.int .i64 t106, .int .i64 t107, .int .i64 t108] (0, 0) _ rfl (by (with_reducible repeat (first | refine blk_drewN ?_ _ | refine blk_drew ?_ | refine blk_alloc ?_ _)); refine blk_put (cs := #[.int .i64 t106, .int .i64 t107, .int .i64 0]) ?_ 2 _ rfl; (with_reducible repeat (first | refine blk_drewN ?_ _ | refine blk_drew ?_ | refine blk_alloc ?_ _)); refine blk_put (cs := #[.int .i64 t106, .int .i64 0, .int .i64 0]) ?_ 1 _ rfl; (with_reducible repeat (first | refine blk_drewN ?_ _ | refine blk_drew ?_ | refine blk_alloc ?_ _)); refine blk_put (cs := #[.int .i64 0, .int .i64 0, .int .i64 0]) ?_ 0 _ rfl; (with_reducible repeat (first | refine blk_drewN ?_ _ | refine blk_drew ?_ | refine blk_alloc ?_ _)); refine blk_far ?_ NB101_110.out _; (with_reducible repeat (first | refine blk_drewN ?_ _ | refine blk_drew ?_ | refine blk_alloc ?_ _)); refine blk_far ?_ NB101_110.out _; (with_reducible repeat (first | refine blk_drewN ?_ _ | refine blk_drew ?_ | refine blk_alloc ?_ _)); refine blk_far ?_ NB101_110.out _; (with_reducible repeat (first | refine blk_drewN ?_ _ | refine blk_drew ?_ | refine blk_alloc ?_ _)); exact BK101.out) Try.underlying75 rfl (by kernel_rfl)) rfl ?_
      exact ⟨by first | rfl | (simp [errW_none, errW_some] <;> rfl) | (simp [*, errW_none, errW_some] <;> rfl), by repeat (first | (with_reducible first | exact HB.out | apply below_alloc | apply pw_below_drewN | apply below_drew1 | refine below_set ?_ GE101.out | refine below_set ?_ GE110.out) | exact HB.out)⟩
    · replace c6 := Bool.eq_false_iff.mpr c6
      subst c6
      have H1 : (some (0, 0, 0, 5)) = some (r1, r2, r3, r4) := by rw [if_neg (show ¬ (false = true) by decide)] at H; exact H
      clear H
      have H := H1
      clear H1
      simp only [Option.some.injEq, Prod.mk.injEq] at H
      obtain ⟨rfl, rfl, rfl, rfl⟩ := H
      go_enter Try.func64, Try.ntmps64
      go_wp2_with (first | ((with_reducible refine gate_dst (N := 4) rfl ?_); refine box_event ?hg (N := 4) ?hd (cs := #[.int .i64 0, .int .i64 0, .int .i64 0]) (t := 75) ?hr ?_; (case hd => rfl); (case hg => rfl); (case hr => first | (go_simp; done) | (go_simp; rfl)); intro gb101 hg w17 hbox hb; have n0_ := Aside0.mk (Kd.V_below (Kd.V_elderB (by (with_reducible repeat (first | apply Kd.V_alloc | apply Kd.V_drewN | apply Kd.V_drew)); exact HO0.out) gb101 (Nat.le_of_eq hg.symm)) hb); have n1_ := Aside0.mk (Kd.V_below (Kd.V_elderB (by (with_reducible repeat (first | apply Kd.V_alloc | apply Kd.V_drewN | apply Kd.V_drew)); exact HO1.out) gb101 (Nat.le_of_eq hg.symm)) hb); have n2_ := Aside0.mk (below_step (by repeat (first | (with_reducible first | exact HB.out | apply below_alloc | apply pw_below_drewN | apply below_drew1) | exact HB.out)) hb); have n3_ := Aside0.mk (hbox); have n4_ := Aside0.mk ((by rw [hg]; exact (below_size (by repeat (first | (with_reducible first | exact HB.out | apply below_alloc | apply pw_below_drewN | apply below_drew1) | exact HB.out))) : w.heap.size ≤ gb101)); have n5_ := Aside0.mk ((by rw [hg]; exact (below_size (by repeat (first | (with_reducible first | exact HB.out | apply below_alloc | apply pw_below_drewN | apply below_drew1) | exact HB.out))) : w.heap.size ≤ gb101)); clear HO0; clear HO1; clear HB; have HO0 := n0_; have HO1 := n1_; have HB := n2_; have BK101 := n3_; have GW101 := n4_; have GE101 := n5_; clear n0_ n1_ n2_ n3_ n4_ n5_; clear hb hbox hg) | ((with_reducible refine gate_dst (N := 11) rfl ?_); refine Kd.N_lit (Kd.slice 23 k23) _ 53 ?hg (N' := 11) ?hd (xs := ([l0, l1] : List (List (S23)))) (inner := [.slice A0 l0.length c0, .slice A1 l1.length c1]) (ok := (fun k_ => ((P0_ k_ ∨ P1_ k_) ∨ w.heap.size ≤ k_) ∧ k_ ≠ gb101)) (okp := (fun k_ => ((P0_ k_ ∨ P1_ k_) ∨ w.heap.size ≤ k_) ∧ k_ ≠ gb101)) ?hr ?hp (fun _ hk => hk) ((show ∀ k_, w17.heap.size ≤ k_ → (fun k_ => ((P0_ k_ ∨ P1_ k_) ∨ w.heap.size ≤ k_) ∧ k_ ≠ gb101) k_ from fun k_ hk => ⟨(.inr (Nat.le_trans (below_size (by repeat (first | (with_reducible first | exact HB.out | apply below_alloc | apply pw_below_drewN | apply below_drew1 | refine below_set ?_ GE101.out) | exact HB.out))) hk)), Kd.freshB (g := gb101) (o := .cells #[.int .i64 0, .int .i64 0, .int .i64 0] 75 (0, 0)) (by (with_reducible repeat (first | refine blk_drewN ?_ _ | refine blk_drew ?_ | refine blk_alloc ?_ _)); exact BK101.out) k_ hk⟩) _ (Nat.le_refl _)) (Below.refl _ _) (Nat.le_refl _) (by simp) ?_; (case hd => rfl); (case hg => rfl); (case hr => first | (go_simp; done) | (go_simp; rfl)); (case hp => exact (Reps.one (show Kd.FK (Kd.slice 23 k23) _ _ l0 [.slice A0 l0.length c0] from (Kd.FK_slice_mk (Kd.V_reads' (Kd.V_mono (ok' := (fun k_ => ((P0_ k_ ∨ P1_ k_) ∨ w.heap.size ≤ k_) ∧ k_ ≠ gb101)) (HO0.out) (fun k_ hk => ⟨hk.1, hk.2⟩))).2.1 (Kd.V_F (Kd.V_mono (ok' := (fun k_ => ((P0_ k_ ∨ P1_ k_) ∨ w.heap.size ≤ k_) ∧ k_ ≠ gb101)) (HO0.out) (fun k_ hk => ⟨hk.1, hk.2⟩))))) (Reps.one (show Kd.FK (Kd.slice 23 k23) _ _ l1 [.slice A1 l1.length c1] from (Kd.FK_slice_mk (Kd.V_reads' (Kd.V_mono (ok' := (fun k_ => ((P0_ k_ ∨ P1_ k_) ∨ w.heap.size ≤ k_) ∧ k_ ≠ gb101)) (HO1.out) (fun k_ hk => ⟨hk.1, hk.2⟩))).2.1 (Kd.V_F (Kd.V_mono (ok' := (fun k_ => ((P0_ k_ ∨ P1_ k_) ∨ w.heap.size ≤ k_) ∧ k_ ≠ gb101)) (HO1.out) (fun k_ hk => ⟨hk.1, hk.2⟩))))) (Reps.none _ _)))); intro v103 w18 ho19 hb hg_ hnew_; clear hg_ hnew_; (first | rw [← Ny102.out] at ho19 | (simp only [Int.reduceToNat] at ho19; rw [← Ny102.out] at ho19)); have n0_ := Aside0.mk (Kd.V_elder' (by (with_reducible repeat (first | apply Kd.V_alloc | apply Kd.V_drewN | apply Kd.V_drew)); exact HO0.out) (Kd.N_base ho19) hb); have n1_ := Aside0.mk (Kd.V_elder' (by (with_reducible repeat (first | apply Kd.V_alloc | apply Kd.V_drewN | apply Kd.V_drew)); exact HO1.out) (Kd.N_base ho19) hb); have n2_ := Aside0.mk (Kd.N_lower ho19 (below_size (by repeat (first | (with_reducible first | exact HB.out | apply below_alloc | apply pw_below_drewN | apply below_drew1 | refine below_set ?_ GE101.out) | exact HB.out)))); have n3_ := Aside0.mk (blk_below (g := gb101) (o := .cells #[.int .i64 0, .int .i64 0, .int .i64 0] 75 (0, 0)) (by (with_reducible repeat (first | refine blk_drewN ?_ _ | refine blk_drew ?_ | refine blk_alloc ?_ _)); exact BK101.out) hb); have n4_ := Aside0.mk (below_step (by repeat (first | (with_reducible first | exact HB.out | apply below_alloc | apply pw_below_drewN | apply below_drew1 | refine below_set ?_ GE101.out) | exact HB.out)) hb); clear HO0; clear HO1; clear BK101; clear HB; have HO0 := n0_; have HO1 := n1_; have HO104 := n2_; have BK101 := n3_; have HB := n4_; clear n0_ n1_ n2_ n3_ n4_; clear hb ho19; obtain ⟨Ao20, co20, eo20⟩ := Kd.N_slice HO104.out; subst eo20) | ((with_reducible refine gate_callee (f := 94) rfl ?_); refine goesL_ (some 12) rfl rfl Try.func94 (by kernel_rfl) rfl #[.slice Ao20 y102.length co20] rfl (by (try simp only [List.map_toArray, List.map_cons, List.map_nil]); first | done | rfl | (simp only [List.length_drop, List.length_take]; rfl)) ?_; (with_reducible refine (plane_checkHulls.calls _ _ y102 t105 _ ?side1 ?side2 A3.out).mono ?_); (case side1 => repeat (first | exact (Kd.N_reads' HO104.out).2.2 | (with_reducible refine Kd.C_alloc ?_ _) | (with_reducible refine Kd.C_drewN ?_ _) | (with_reducible refine Kd.C_drew ?_))); (case side2 => exact (Kd.N_reads' HO104.out).2.1); rintro e w21 ⟨rfl, hb⟩; refine ⟨_, rfl, ?_⟩; have n0_ := Aside0.mk (Kd.V_below (by (with_reducible repeat (first | apply Kd.V_alloc | apply Kd.V_drewN | apply Kd.V_drew)); exact HO0.out) hb); have n1_ := Aside0.mk (Kd.V_below (by (with_reducible repeat (first | apply Kd.V_alloc | apply Kd.V_drewN | apply Kd.V_drew)); exact HO1.out) hb); have n2_ := Aside0.mk (Kd.N_below (by (with_reducible repeat (first | apply Kd.N_alloc | apply Kd.N_drewN | apply Kd.N_drew)); exact HO104.out) hb); have n3_ := Aside0.mk (blk_below (g := gb101) (o := .cells #[.int .i64 0, .int .i64 0, .int .i64 0] 75 (0, 0)) (by (with_reducible repeat (first | refine blk_drewN ?_ _ | refine blk_drew ?_ | refine blk_alloc ?_ _)); exact BK101.out) hb); have n4_ := Aside0.mk (below_step (by repeat (first | (with_reducible first | exact HB.out | apply below_alloc | apply pw_below_drewN | apply below_drew1 | refine below_set ?_ GE101.out) | exact HB.out)) hb); clear HO0; clear HO1; clear HO104; clear BK101; clear HB; have HO0 := n0_; have HO1 := n1_; have HO104 := n2_; have BK101 := n3_; have HB := n4_; clear n0_ n1_ n2_ n3_ n4_; (try clear hb); (try clear hb2); (try clear hk); (try clear hi)) | ((with_reducible refine gate_callee (f := 106) rfl ?_); refine goesL_ (some 20) rfl rfl Try.func106 (by kernel_rfl) rfl #[.slice A0 l0.length c0, .slice A1 l1.length c1] rfl (by (try simp only [List.map_toArray, List.map_cons, List.map_nil]); first | done | rfl | (simp only [List.length_drop, List.length_take]; rfl)) ?_; (with_reducible refine (plane_part.calls _ _ l0 _ _ l1 t106 t107 t108 false _ ?side1 ?side2 ?side3 ?side4 A5.out).mono ?_); (case side1 => repeat (first | exact (Kd.V_reads' HO0.out).2.2 | (with_reducible refine Kd.C_alloc ?_ _) | (with_reducible refine Kd.C_drewN ?_ _) | (with_reducible refine Kd.C_drew ?_))); (case side2 => exact (Kd.V_reads' HO0.out).2.1); (case side3 => repeat (first | exact (Kd.V_reads' HO1.out).2.2 | (with_reducible refine Kd.C_alloc ?_ _) | (with_reducible refine Kd.C_drewN ?_ _) | (with_reducible refine Kd.C_drew ?_))); (case side4 => exact (Kd.V_reads' HO1.out).2.1); rintro e w22 ⟨rfl, hb⟩; refine ⟨_, rfl, ?_⟩; have n0_ := Aside0.mk (Kd.V_below (by (with_reducible repeat (first | apply Kd.V_alloc | apply Kd.V_drewN | apply Kd.V_drew)); exact HO0.out) hb); have n1_ := Aside0.mk (Kd.V_below (by (with_reducible repeat (first | apply Kd.V_alloc | apply Kd.V_drewN | apply Kd.V_drew)); exact HO1.out) hb); have n2_ := Aside0.mk (Kd.N_below (by (with_reducible repeat (first | apply Kd.N_alloc | apply Kd.N_drewN | apply Kd.N_drew)); exact HO104.out) hb); have n3_ := Aside0.mk (blk_below (g := gb101) (o := .cells #[.int .i64 0, .int .i64 0, .int .i64 0] 75 (0, 0)) (by (with_reducible repeat (first | refine blk_drewN ?_ _ | refine blk_drew ?_ | refine blk_alloc ?_ _)); exact BK101.out) hb); have n4_ := Aside0.mk (below_step (by repeat (first | (with_reducible first | exact HB.out | apply below_alloc | apply pw_below_drewN | apply below_drew1 | refine below_set ?_ GE101.out) | exact HB.out)) hb); clear HO0; clear HO1; clear HO104; clear BK101; clear HB; have HO0 := n0_; have HO1 := n1_; have HO104 := n2_; have BK101 := n3_; have HB := n4_; clear n0_ n1_ n2_ n3_ n4_; (try clear hb); (try clear hb2); (try clear hk); (try clear hi)) | ((with_reducible refine gate_dst (N := 7) rfl ?_); refine box_event ?hg (N := 7) ?hd (cs := #[.int .i64 0, .int .i64 0, .int .i64 0]) (t := 75) ?hr ?_; (case hd => rfl); (case hg => rfl); (case hr => first | (go_simp; done) | (go_simp; rfl)); intro gb110 hg w23 hbox hb; have n0_ := Aside0.mk (Kd.V_below (Kd.V_elderB (by (with_reducible repeat (first | apply Kd.V_alloc | apply Kd.V_drewN | apply Kd.V_drew)); exact HO0.out) gb110 (Nat.le_of_eq hg.symm)) hb); have n1_ := Aside0.mk (Kd.V_below (Kd.V_elderB (by (with_reducible repeat (first | apply Kd.V_alloc | apply Kd.V_drewN | apply Kd.V_drew)); exact HO1.out) gb110 (Nat.le_of_eq hg.symm)) hb); have n2_ := Aside0.mk (Kd.N_below (Kd.N_elderB (by (with_reducible repeat (first | apply Kd.N_alloc | apply Kd.N_drewN | apply Kd.N_drew)); exact HO104.out) gb110 (Nat.le_of_eq hg.symm)) hb); have n3_ := Aside0.mk (blk_below (g := gb101) (o := .cells #[.int .i64 0, .int .i64 0, .int .i64 0] 75 (0, 0)) (by (with_reducible repeat (first | refine blk_drewN ?_ _ | refine blk_drew ?_ | refine blk_alloc ?_ _)); exact BK101.out) hb); have n4_ := Aside0.mk (below_step (by repeat (first | (with_reducible first | exact HB.out | apply below_alloc | apply pw_below_drewN | apply below_drew1 | refine below_set ?_ GE101.out) | exact HB.out)) hb); have n5_ := Aside0.mk (hbox); have n6_ := Aside0.mk ((by rw [hg]; exact (below_size (by repeat (first | (with_reducible first | exact HB.out | apply below_alloc | apply pw_below_drewN | apply below_drew1 | refine below_set ?_ GE101.out) | exact HB.out))) : w.heap.size ≤ gb110)); have n7_ := Aside0.mk ((by rw [hg]; exact (below_size (by repeat (first | (with_reducible first | exact HB.out | apply below_alloc | apply pw_below_drewN | apply below_drew1 | refine below_set ?_ GE101.out) | exact HB.out))) : w.heap.size ≤ gb110)); have n8_ := Aside0.mk ((by rw [hg]; exact Nat.ne_of_lt (blk_lt (g := gb101) (o := .cells #[.int .i64 0, .int .i64 0, .int .i64 0] 75 (0, 0)) (by (with_reducible repeat (first | refine blk_drewN ?_ _ | refine blk_drew ?_ | refine blk_alloc ?_ _)); exact BK101.out)) : gb101 ≠ gb110)); have n9_ := Aside0.mk ((by rw [hg]; exact Nat.ne_of_gt (blk_lt (g := gb101) (o := .cells #[.int .i64 0, .int .i64 0, .int .i64 0] 75 (0, 0)) (by (with_reducible repeat (first | refine blk_drewN ?_ _ | refine blk_drew ?_ | refine blk_alloc ?_ _)); exact BK101.out)) : gb110 ≠ gb101)); clear HO0; clear HO1; clear HO104; clear BK101; clear HB; have HO0 := n0_; have HO1 := n1_; have HO104 := n2_; have BK101 := n3_; have HB := n4_; have BK110 := n5_; have GW110 := n6_; have GE110 := n7_; have NB101_110 := n8_; have NB110_101 := n9_; clear n0_ n1_ n2_ n3_ n4_ n5_ n6_ n7_ n8_ n9_; clear hb hbox hg; have hnb24 := NB110_101.out; have hnc24 := NB101_110.out; have hcz25_0 : w23.cell? ⟨gb110, 0, none⟩ = some (.int .i64 0) := (blk_cell BK110.out 0).trans rfl; have hcz25_1 : w23.cell? ⟨gb110, 1, none⟩ = some (.int .i64 0) := (blk_cell BK110.out 1).trans rfl; have hcz25_2 : w23.cell? ⟨gb110, 2, none⟩ = some (.int .i64 0) := (blk_cell BK110.out 2).trans rfl; have hfz25_0 := blk_frozen BK110.out 0; have hfz25_1 := blk_frozen BK110.out 1; have hfz25_2 := blk_frozen BK110.out 2; have hcz26_0 : w23.cell? ⟨gb101, 0, none⟩ = some (.int .i64 0) := (blk_cell BK101.out 0).trans rfl; have hcz26_1 : w23.cell? ⟨gb101, 1, none⟩ = some (.int .i64 0) := (blk_cell BK101.out 1).trans rfl; have hcz26_2 : w23.cell? ⟨gb101, 2, none⟩ = some (.int .i64 0) := (blk_cell BK101.out 2).trans rfl; have hfz26_0 := blk_frozen BK101.out 0; have hfz26_1 := blk_frozen BK101.out 1; have hfz26_2 := blk_frozen BK101.out 2))
      refine bodyPost_ret (results_ct rfl _ _ gb101 75 #[.int .i64 0, .int .i64 0, .int .i64 0] (0, 0) _ rfl (by (with_reducible repeat (first | refine blk_drewN ?_ _ | refine blk_drew ?_ | refine blk_alloc ?_ _)); refine blk_put (cs := #[.int .i64 0, .int .i64 0, .int .i64 0]) ?_ 2 _ rfl; (with_reducible repeat (first | refine blk_drewN ?_ _ | refine blk_drew ?_ | refine blk_alloc ?_ _)); refine blk_put (cs := #[.int .i64 0, .int .i64 0, .int .i64 0]) ?_ 1 _ rfl; (with_reducible repeat (first | refine blk_drewN ?_ _ | refine blk_drew ?_ | refine blk_alloc ?_ _)); refine blk_put (cs := #[.int .i64 0, .int .i64 0, .int .i64 0]) ?_ 0 _ rfl; (with_reducible repeat (first | refine blk_drewN ?_ _ | refine blk_drew ?_ | refine blk_alloc ?_ _)); refine blk_far ?_ NB101_110.out _; (with_reducible repeat (first | refine blk_drewN ?_ _ | refine blk_drew ?_ | refine blk_alloc ?_ _)); refine blk_far ?_ NB101_110.out _; (with_reducible repeat (first | refine blk_drewN ?_ _ | refine blk_drew ?_ | refine blk_alloc ?_ _)); refine blk_far ?_ NB101_110.out _; (with_reducible repeat (first | refine blk_drewN ?_ _ | refine blk_drew ?_ | refine blk_alloc ?_ _)); exact BK101.out) Try.underlying75 rfl (by kernel_rfl)) rfl ?_
      exact ⟨by first | rfl | (simp [errW_none, errW_some] <;> rfl) | (simp [*, errW_none, errW_some] <;> rfl), by repeat (first | (with_reducible first | exact HB.out | apply below_alloc | apply pw_below_drewN | apply below_drew1 | refine below_set ?_ GE101.out | refine below_set ?_ GE110.out) | exact HB.out)⟩
  · rw [if_neg c4] at H
    have c4b0 : (t105 == 0) = false := beq_eq_false_iff_ne.mpr c4
    have c4b1 : (t105 != 0) = true := bne_iff_ne.mpr c4
    simp only [Option.some.injEq, Prod.mk.injEq] at H
    obtain ⟨rfl, rfl, rfl, rfl⟩ := H
    go_enter Try.func64, Try.ntmps64
    go_wp2_with (first | ((with_reducible refine gate_dst (N := 4) rfl ?_); refine box_event ?hg (N := 4) ?hd (cs := #[.int .i64 0, .int .i64 0, .int .i64 0]) (t := 75) ?hr ?_; (case hd => rfl); (case hg => rfl); (case hr => first | (go_simp; done) | (go_simp; rfl)); intro gb101 hg w27 hbox hb; have n0_ := Aside0.mk (Kd.V_below (Kd.V_elderB (by (with_reducible repeat (first | apply Kd.V_alloc | apply Kd.V_drewN | apply Kd.V_drew)); exact HO0.out) gb101 (Nat.le_of_eq hg.symm)) hb); have n1_ := Aside0.mk (Kd.V_below (Kd.V_elderB (by (with_reducible repeat (first | apply Kd.V_alloc | apply Kd.V_drewN | apply Kd.V_drew)); exact HO1.out) gb101 (Nat.le_of_eq hg.symm)) hb); have n2_ := Aside0.mk (below_step (by repeat (first | (with_reducible first | exact HB.out | apply below_alloc | apply pw_below_drewN | apply below_drew1) | exact HB.out)) hb); have n3_ := Aside0.mk (hbox); have n4_ := Aside0.mk ((by rw [hg]; exact (below_size (by repeat (first | (with_reducible first | exact HB.out | apply below_alloc | apply pw_below_drewN | apply below_drew1) | exact HB.out))) : w.heap.size ≤ gb101)); have n5_ := Aside0.mk ((by rw [hg]; exact (below_size (by repeat (first | (with_reducible first | exact HB.out | apply below_alloc | apply pw_below_drewN | apply below_drew1) | exact HB.out))) : w.heap.size ≤ gb101)); clear HO0; clear HO1; clear HB; have HO0 := n0_; have HO1 := n1_; have HB := n2_; have BK101 := n3_; have GW101 := n4_; have GE101 := n5_; clear n0_ n1_ n2_ n3_ n4_ n5_; clear hb hbox hg) | ((with_reducible refine gate_dst (N := 11) rfl ?_); refine Kd.N_lit (Kd.slice 23 k23) _ 53 ?hg (N' := 11) ?hd (xs := ([l0, l1] : List (List (S23)))) (inner := [.slice A0 l0.length c0, .slice A1 l1.length c1]) (ok := (fun k_ => ((P0_ k_ ∨ P1_ k_) ∨ w.heap.size ≤ k_) ∧ k_ ≠ gb101)) (okp := (fun k_ => ((P0_ k_ ∨ P1_ k_) ∨ w.heap.size ≤ k_) ∧ k_ ≠ gb101)) ?hr ?hp (fun _ hk => hk) ((show ∀ k_, w27.heap.size ≤ k_ → (fun k_ => ((P0_ k_ ∨ P1_ k_) ∨ w.heap.size ≤ k_) ∧ k_ ≠ gb101) k_ from fun k_ hk => ⟨(.inr (Nat.le_trans (below_size (by repeat (first | (with_reducible first | exact HB.out | apply below_alloc | apply pw_below_drewN | apply below_drew1 | refine below_set ?_ GE101.out) | exact HB.out))) hk)), Kd.freshB (g := gb101) (o := .cells #[.int .i64 0, .int .i64 0, .int .i64 0] 75 (0, 0)) (by (with_reducible repeat (first | refine blk_drewN ?_ _ | refine blk_drew ?_ | refine blk_alloc ?_ _)); exact BK101.out) k_ hk⟩) _ (Nat.le_refl _)) (Below.refl _ _) (Nat.le_refl _) (by simp) ?_; (case hd => rfl); (case hg => rfl); (case hr => first | (go_simp; done) | (go_simp; rfl)); (case hp => exact (Reps.one (show Kd.FK (Kd.slice 23 k23) _ _ l0 [.slice A0 l0.length c0] from (Kd.FK_slice_mk (Kd.V_reads' (Kd.V_mono (ok' := (fun k_ => ((P0_ k_ ∨ P1_ k_) ∨ w.heap.size ≤ k_) ∧ k_ ≠ gb101)) (HO0.out) (fun k_ hk => ⟨hk.1, hk.2⟩))).2.1 (Kd.V_F (Kd.V_mono (ok' := (fun k_ => ((P0_ k_ ∨ P1_ k_) ∨ w.heap.size ≤ k_) ∧ k_ ≠ gb101)) (HO0.out) (fun k_ hk => ⟨hk.1, hk.2⟩))))) (Reps.one (show Kd.FK (Kd.slice 23 k23) _ _ l1 [.slice A1 l1.length c1] from (Kd.FK_slice_mk (Kd.V_reads' (Kd.V_mono (ok' := (fun k_ => ((P0_ k_ ∨ P1_ k_) ∨ w.heap.size ≤ k_) ∧ k_ ≠ gb101)) (HO1.out) (fun k_ hk => ⟨hk.1, hk.2⟩))).2.1 (Kd.V_F (Kd.V_mono (ok' := (fun k_ => ((P0_ k_ ∨ P1_ k_) ∨ w.heap.size ≤ k_) ∧ k_ ≠ gb101)) (HO1.out) (fun k_ hk => ⟨hk.1, hk.2⟩))))) (Reps.none _ _)))); intro v103 w28 ho29 hb hg_ hnew_; clear hg_ hnew_; (first | rw [← Ny102.out] at ho29 | (simp only [Int.reduceToNat] at ho29; rw [← Ny102.out] at ho29)); have n0_ := Aside0.mk (Kd.V_elder' (by (with_reducible repeat (first | apply Kd.V_alloc | apply Kd.V_drewN | apply Kd.V_drew)); exact HO0.out) (Kd.N_base ho29) hb); have n1_ := Aside0.mk (Kd.V_elder' (by (with_reducible repeat (first | apply Kd.V_alloc | apply Kd.V_drewN | apply Kd.V_drew)); exact HO1.out) (Kd.N_base ho29) hb); have n2_ := Aside0.mk (Kd.N_lower ho29 (below_size (by repeat (first | (with_reducible first | exact HB.out | apply below_alloc | apply pw_below_drewN | apply below_drew1 | refine below_set ?_ GE101.out) | exact HB.out)))); have n3_ := Aside0.mk (blk_below (g := gb101) (o := .cells #[.int .i64 0, .int .i64 0, .int .i64 0] 75 (0, 0)) (by (with_reducible repeat (first | refine blk_drewN ?_ _ | refine blk_drew ?_ | refine blk_alloc ?_ _)); exact BK101.out) hb); have n4_ := Aside0.mk (below_step (by repeat (first | (with_reducible first | exact HB.out | apply below_alloc | apply pw_below_drewN | apply below_drew1 | refine below_set ?_ GE101.out) | exact HB.out)) hb); clear HO0; clear HO1; clear BK101; clear HB; have HO0 := n0_; have HO1 := n1_; have HO104 := n2_; have BK101 := n3_; have HB := n4_; clear n0_ n1_ n2_ n3_ n4_; clear hb ho29; obtain ⟨Ao30, co30, eo30⟩ := Kd.N_slice HO104.out; subst eo30) | ((with_reducible refine gate_callee (f := 94) rfl ?_); refine goesL_ (some 12) rfl rfl Try.func94 (by kernel_rfl) rfl #[.slice Ao30 y102.length co30] rfl (by (try simp only [List.map_toArray, List.map_cons, List.map_nil]); first | done | rfl | (simp only [List.length_drop, List.length_take]; rfl)) ?_; (with_reducible refine (plane_checkHulls.calls _ _ y102 t105 _ ?side1 ?side2 A3.out).mono ?_); (case side1 => repeat (first | exact (Kd.N_reads' HO104.out).2.2 | (with_reducible refine Kd.C_alloc ?_ _) | (with_reducible refine Kd.C_drewN ?_ _) | (with_reducible refine Kd.C_drew ?_))); (case side2 => exact (Kd.N_reads' HO104.out).2.1); rintro e w31 ⟨rfl, hb⟩; refine ⟨_, rfl, ?_⟩; have n0_ := Aside0.mk (Kd.V_below (by (with_reducible repeat (first | apply Kd.V_alloc | apply Kd.V_drewN | apply Kd.V_drew)); exact HO0.out) hb); have n1_ := Aside0.mk (Kd.V_below (by (with_reducible repeat (first | apply Kd.V_alloc | apply Kd.V_drewN | apply Kd.V_drew)); exact HO1.out) hb); have n2_ := Aside0.mk (Kd.N_below (by (with_reducible repeat (first | apply Kd.N_alloc | apply Kd.N_drewN | apply Kd.N_drew)); exact HO104.out) hb); have n3_ := Aside0.mk (blk_below (g := gb101) (o := .cells #[.int .i64 0, .int .i64 0, .int .i64 0] 75 (0, 0)) (by (with_reducible repeat (first | refine blk_drewN ?_ _ | refine blk_drew ?_ | refine blk_alloc ?_ _)); exact BK101.out) hb); have n4_ := Aside0.mk (below_step (by repeat (first | (with_reducible first | exact HB.out | apply below_alloc | apply pw_below_drewN | apply below_drew1 | refine below_set ?_ GE101.out) | exact HB.out)) hb); clear HO0; clear HO1; clear HO104; clear BK101; clear HB; have HO0 := n0_; have HO1 := n1_; have HO104 := n2_; have BK101 := n3_; have HB := n4_; clear n0_ n1_ n2_ n3_ n4_; (try clear hb); (try clear hb2); (try clear hk); (try clear hi); have hcz32_0 : w31.cell? ⟨gb101, 0, none⟩ = some (.int .i64 0) := (blk_cell BK101.out 0).trans rfl; have hcz32_1 : w31.cell? ⟨gb101, 1, none⟩ = some (.int .i64 0) := (blk_cell BK101.out 1).trans rfl; have hcz32_2 : w31.cell? ⟨gb101, 2, none⟩ = some (.int .i64 0) := (blk_cell BK101.out 2).trans rfl; have hfz32_0 := blk_frozen BK101.out 0; have hfz32_1 := blk_frozen BK101.out 1; have hfz32_2 := blk_frozen BK101.out 2))
    refine bodyPost_ret (results_ct rfl _ _ gb101 75 #[.int .i64 0, .int .i64 0, .int .i64 0] (0, 0) _ rfl (by (with_reducible repeat (first | refine blk_drewN ?_ _ | refine blk_drew ?_ | refine blk_alloc ?_ _)); refine blk_put (cs := #[.int .i64 0, .int .i64 0, .int .i64 0]) ?_ 2 _ rfl; (with_reducible repeat (first | refine blk_drewN ?_ _ | refine blk_drew ?_ | refine blk_alloc ?_ _)); refine blk_put (cs := #[.int .i64 0, .int .i64 0, .int .i64 0]) ?_ 1 _ rfl; (with_reducible repeat (first | refine blk_drewN ?_ _ | refine blk_drew ?_ | refine blk_alloc ?_ _)); refine blk_put (cs := #[.int .i64 0, .int .i64 0, .int .i64 0]) ?_ 0 _ rfl; (with_reducible repeat (first | refine blk_drewN ?_ _ | refine blk_drew ?_ | refine blk_alloc ?_ _)); exact BK101.out) Try.underlying75 rfl (by kernel_rfl)) rfl ?_
    exact ⟨by first | rfl | (simp [errW_none, errW_some] <;> rfl) | (simp [*, errW_none, errW_some] <;> rfl), by repeat (first | (with_reducible first | exact HB.out | apply below_alloc | apply pw_below_drewN | apply below_drew1 | refine below_set ?_ GE101.out) | exact HB.out)⟩
end Go.Proofs.Ytegdcnjjelgpjaa.P
