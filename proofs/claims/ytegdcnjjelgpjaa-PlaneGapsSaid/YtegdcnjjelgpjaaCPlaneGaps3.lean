/- The law PlaneGaps answers true at every input and leaves its arguments as they were; no condition. Part 4 of 5. -/
import Derived.Test.YtegdcnjjelgpjaaCPlaneGaps2
import Derived.Test.YtegdcnjjelgpjaaCPlaneGaps0
import Derived.Test.YtegdcnjjelgpjaaCPlaneGaps1
import Derived.ChangeArms
import Derived.ChangeSame
import Derived.Deep.Slices
import Derived.WideShapes
import Derived.KernelRfl
set_option linter.unusedVariables false
set_option linter.unusedSimpArgs false
namespace Go.Proofs.Ytegdcnjjelgpjaa.P
open Go.RowKit Go.Shelf Go.Proofs.Ytegdcnjjelgpjaa.O Go.Proofs.YtegdcnjjelgpjaaW.PrintWords Go.Proofs.YtegdcnjjelgpjaaW.PrintLast Go.Proofs.YtegdcnjjelgpjaaW.PrintMore
attribute [local go_sem] Oper.semAt_some
set_option linter.unusedVariables false
set_option linter.unusedSimpArgs false
def dir4 (s : S23 × S23) : List S75 := [⟨wrap64 (s.2.f1 - s.1.f1), wrap64 (-(wrap64 (s.2.f0 - s.1.f0))), 0⟩, ⟨wrap64 (-(wrap64 (s.2.f1 - s.1.f1))), wrap64 (s.2.f0 - s.1.f0), 0⟩, ⟨wrap64 (s.2.f0 - s.1.f0), wrap64 (s.2.f1 - s.1.f1), 0⟩, ⟨wrap64 (-(wrap64 (s.2.f0 - s.1.f0))), wrap64 (-(wrap64 (s.2.f1 - s.1.f1))), 0⟩]
def dirs (h : List S23) : List S75 := (sideL h).flatMap dir4
def dir0 (a b : List S23) : S75 := ⟨wrap64 ((rd_T23 b 0).f0 - (rd_T23 a 0).f0), wrap64 ((rd_T23 b 0).f1 - (rd_T23 a 0).f1), 0⟩
def partL (a b : List S23) : List S75 := dir0 a b :: (dirs a ++ dirs b)
def plane_part.f (l0 : List (S23)) (l1 : List (S23)) : Option (Int × Int × Int × Bool) := if 0 < l0.length ∧ 0 < l1.length then some (lineR (tryO l0 l1 (partL l0 l1))) else none
theorem results_lb {fn : Func} {p p' : Tmp} (h : fn.results = #[.cell p 75, .cell p' 4]) (tmps : Array Value) (w : World) (g : Nat) (cs : Array Value) (g' : Nat) (v : Value)
    (hp : tmps.getD p undef = .pointer (some ⟨g, 0, none⟩)) (hp' : tmps.getD p' undef = .pointer (some ⟨g', 0, none⟩)) (hg : w.heap[g]? = some (.cells cs 75 (0, 0))) (hc : w.cell? ⟨g', 0, none⟩ = some v) (hs : cs.size = 3) :
    (results fn tmps).run Try.prog w = .ok (.tuple #[.agg cs, v]) w := by
  have hu75 := Try.underlying75
  have h1 : tmps[p]?.getD undef = .pointer (some ⟨g, 0, none⟩) := by simpa using hp
  have h2 : tmps[p']?.getD undef = .pointer (some ⟨g', 0, none⟩) := by simpa using hp'
  have hi : (Try.prog.info? 75).map (·.size) = some cs.size := by rw [hs]; kernel_rfl
  have hb : (isAgg 4).run Try.prog w = .ok false w := by kernel_rfl
  have hl : (loadVar 4 ⟨g', 0, none⟩).run Try.prog w = .ok v w := by
    unfold loadVar
    simp [Sem.run_bind, hb, Result.andThen, go_sem, hc]
  simp [results, h, h1, h2, asAddr, run_loadVar_row w g 75 75 cs (0, 0) _ hg hu75 rfl hi, hl]
structure PInv (B : Nat) (w : World) (va vb : Value) (hi : Nat) (ds : List Deferred) (W : World) : Prop where
  below : Below B w W
  size : B + 4 ≤ hi ∧ hi ≤ W.heap.size
  ha : W.heap[B]? = some (.cells #[va] 53 (0, 0))
  hb : W.heap[B + 1]? = some (.cells #[vb] 53 (0, 0))
  hl : W.heap[B + 1 + 1]? = some (.cells (lineC z75) 75 (0, 0))
  hf : W.heap[B + 1 + 1 + 1]? = some (.cells #[.bool false] 4 (0, 0))
  coll : Coll (B + 4) hi ds W
theorem PInv.step {B : Nat} {w : World} {va vb : Value} {hi X : Nat} {ds : List Deferred} {W W' : World} (h : PInv B w va vb hi ds W) (hb : Below X W W') (hX : hi ≤ X) : PInv B w va vb hi ds W' := by
  have h1 := h.size
  have h2 := hb.size
  exact ⟨h.below.trans (hb.mono (by omega)), by omega, keep_below hb (by omega) h.ha, keep_below hb (by omega) h.hb, keep_below hb (by omega) h.hl, keep_below hb (by omega) h.hf, h.coll.below hb hX⟩
theorem PInv.up {B : Nat} {w : World} {va vb : Value} {hi : Nat} {ds : List Deferred} {W : World} (h : PInv B w va vb hi ds W) : PInv B w va vb W.heap.size ds W :=
  ⟨h.below, ⟨by have := h.size; omega, Nat.le_refl _⟩, h.ha, h.hb, h.hl, h.hf, h.coll.mono h.size.2⟩
structure PEnd (B : Nat) (w : World) (hi : Nat) (ds : List Deferred) (x : S75) (b : Bool) (W : World) : Prop where
  below : Below B w W
  size : B + 4 ≤ hi ∧ hi ≤ W.heap.size
  hl : W.heap[B + 1 + 1]? = some (.cells (lineC x) 75 (0, 0))
  hf : W.heap[B + 1 + 1 + 1]? = some (.cells #[.bool b] 4 (0, 0))
  coll : Coll (B + 4) hi ds W
theorem PEnd.step {B : Nat} {w : World} {hi X : Nat} {ds : List Deferred} {x : S75} {b : Bool} {W W' : World} (h : PEnd B w hi ds x b W) (hb : Below X W W') (hX : hi ≤ X) : PEnd B w hi ds x b W' := by
  have h1 := h.size
  have h2 := hb.size
  exact ⟨h.below.trans (hb.mono (by omega)), by omega, keep_below hb (by omega) h.hl, keep_below hb (by omega) h.hf, h.coll.below hb hX⟩
theorem part_store {B hi : Nat} {w : World} {va vb : Value} {ds : List Deferred} {V : World} (x0 x1 x2 : Int) (b : Bool) (J : PInv B w va vb hi ds V) :
    PEnd B w hi ds ⟨x0, x1, x2⟩ b ((((V.setCell ⟨B + 1 + 1, 0, none⟩ (.int .i64 x0)).setCell ⟨B + 1 + 1, 1, none⟩ (.int .i64 x1)).setCell ⟨B + 1 + 1, 2, none⟩ (.int .i64 x2)).setCell ⟨B + 1 + 1 + 1, 0, none⟩ (.bool b)) ∧
    ∀ D, B + 4 ≤ D → Recs D V ((((V.setCell ⟨B + 1 + 1, 0, none⟩ (.int .i64 x0)).setCell ⟨B + 1 + 1, 1, none⟩ (.int .i64 x1)).setCell ⟨B + 1 + 1, 2, none⟩ (.int .i64 x2)).setCell ⟨B + 1 + 1 + 1, 0, none⟩ (.bool b)) := by
  show PEnd B w hi ds ⟨x0, x1, x2⟩ b ((put3 V (B + 1 + 1) ⟨x0, x1, x2⟩).setCell ⟨B + 1 + 1 + 1, 0, none⟩ (.bool b)) ∧ ∀ D, B + 4 ≤ D → Recs D V ((put3 V (B + 1 + 1) ⟨x0, x1, x2⟩).setCell ⟨B + 1 + 1 + 1, 0, none⟩ (.bool b))
  have hbe : Below (B + 1 + 1) V ((put3 V (B + 1 + 1) ⟨x0, x1, x2⟩).setCell ⟨B + 1 + 1 + 1, 0, none⟩ (.bool b)) := (put3_below (Nat.le_refl _)).setCell (p := ⟨B + 1 + 1 + 1, 0, none⟩) (by simp) _
  have q5 : (put3 V (B + 1 + 1) ⟨x0, x1, x2⟩).heap[B + 1 + 1 + 1]? = some (.cells #[.bool false] 4 (0, 0)) := by rw [put3_far (by omega)]; exact J.hf
  have far : ∀ q, B + 4 ≤ q → ((put3 V (B + 1 + 1) ⟨x0, x1, x2⟩).setCell ⟨B + 1 + 1 + 1, 0, none⟩ (.bool b)).heap[q]? = V.heap[q]? := fun q hq => by
    rw [Below.heap_setCell _ _ _ _ (by simp; omega), put3_far (by omega)]
  refine ⟨⟨J.below.trans (hbe.mono (by omega)), ⟨J.size.1, Nat.le_trans J.size.2 hbe.size⟩, ?_, ?_, J.coll.same fun q hq _ => far q hq⟩, fun D hD => ⟨far D hD, far (D + 1) (by omega)⟩⟩
  · rw [Below.heap_setCell _ _ _ _ (by simp)]; exact put3_blk _ J.hl
  · exact blk_set q5 0 (.bool b)
theorem try_in (aa ab : Addr) (na nb ca cb g m : Nat) (l0 l1 : List S23) (L : List S75) (r1 r2 r3 : Int) (r4 : Bool) (w V : World) (h0 : 0 < l0.length) (h1 : 0 < l1.length) (hna : l0.length = na) (hnb : l1.length = nb)
    (hr0 : Kd.C k23 w (some aa) l0.length l0) (hca : l0.length ≤ ca) (hr1 : Kd.C k23 w (some ab) l1.length l1) (hcb : l1.length ≤ cb) (hV : Below w.heap.size w V) (hL : L.length < 1000) (hm : L.length = m) (hr2 : Kd.C k75 V (some ⟨g, 0, none⟩) m L) (hr : lineR (tryO l0 l1 L) = (r1, r2, r3, r4)) :
    CallsIn Fence.wide 0 Try.prog 123 #[.slice (some aa) na ca, .slice (some ab) nb cb, .slice (some ⟨g, 0, none⟩) m m] V fun e W' => e = .returned (.tuple #[.agg #[.int .i64 r1, .int .i64 r2, .int .i64 r3], .bool r4]) ∧ Below V.heap.size V W' := by
  subst hna hnb hm
  obtain ⟨k, hk⟩ := (try_ev l0 l1 h0 h1 L hL).rounds
  rw [hr] at hk
  exact callsIn_w (plane_try.calls k (some aa) ca l0 (some ab) cb l1 (some ⟨g, 0, none⟩) L.length L r1 r2 r3 r4 V (Kd.C_below hr0 hV) hca (Kd.C_below hr1 hV) hcb hr2 (Nat.le_refl _) hk)
set_option maxRecDepth 100000 in
set_option maxHeartbeats 1000000 in
theorem part_in (aa ab : Addr) (ca cb : Nat) (l0 l1 : List S23) (w : World) (h0 : 0 < l0.length) (h1 : 0 < l1.length)
    (hr0 : Kd.C k23 w (some aa) l0.length l0) (hca : l0.length ≤ ca) (hr1 : Kd.C k23 w (some ab) l1.length l1) (hcb : l1.length ≤ cb) :
    CallsIn Fence.wide 0 Try.prog 106 #[.slice (some aa) l0.length ca, .slice (some ab) l1.length cb] w fun e W' =>
      e = .returned (.tuple #[.agg #[.int .i64 (lineR (tryO l0 l1 (partL l0 l1))).1, .int .i64 (lineR (tryO l0 l1 (partL l0 l1))).2.1, .int .i64 (lineR (tryO l0 l1 (partL l0 l1))).2.2.1], .bool (lineR (tryO l0 l1 (partL l0 l1))).2.2.2]) ∧ Below w.heap.size w W' := by
  have hu75 := Try.underlying75
  have hu23 := Try.underlying23
  obtain ⟨A', eA, xa0, xa1⟩ := at_T23 hr0 0 (by omega) (by omega)
  obtain rfl : aa = A' := Option.some.inj eA
  obtain ⟨B', eB, xb0, xb1⟩ := at_T23 hr1 0 (by omega) (by omega)
  obtain rfl : ab = B' := Option.some.inj eB
  rw [show ((0 : Int)).toNat = 0 from rfl, show 0 * 2 = 0 from rfl, Addr.add_zero'] at xa0 xa1 xb0 xb1
  obtain ⟨a0, ha0⟩ : ∃ p, rd_T23 l0 0 = p := ⟨_, rfl⟩
  obtain ⟨b0, hb0⟩ : ∃ p, rd_T23 l1 0 = p := ⟨_, rfl⟩
  obtain ⟨dx, hdx⟩ : ∃ d, wrap64 (b0.f0 - a0.f0) = d := ⟨_, rfl⟩
  obtain ⟨dy, hdy⟩ : ∃ d, wrap64 (b0.f1 - a0.f1) = d := ⟨_, rfl⟩
  have HPL : Aside0 (partL l0 l1 = ⟨dx, dy, 0⟩ :: (dirs l0 ++ dirs l1)) := ⟨by unfold partL dir0; rw [ha0, hb0, hdx, hdy]⟩
  rw [ha0] at xa0 xa1
  rw [hb0] at xb0 xb1
  have w1 : IntKind.i64.wrap (b0.f0 - a0.f0) = dx := by rw [i64_w]; exact hdx
  have w2 : IntKind.i64.wrap (b0.f1 - a0.f1) = dy := by rw [i64_w]; exact hdy
  obtain ⟨⟨r1, r2, r3, r4⟩, hr⟩ : ∃ r, lineR (tryO l0 l1 [⟨dx, dy, 0⟩]) = r := ⟨_, rfl⟩
  have HR := Aside0.mk hr
  obtain ⟨na, hna⟩ : ∃ n, l0.length = n := ⟨_, rfl⟩
  obtain ⟨nb, hnb⟩ : ∃ n, l1.length = n := ⟨_, rfl⟩
  have HTR : Aside0 (∀ (L : List S75) (g m : Nat) (V : World) (s1 s2 s3 : Int) (s4 : Bool), Below w.heap.size w V → L.length < 1000 → L.length = m → Kd.C k75 V (some ⟨g, 0, none⟩) m L → lineR (tryO l0 l1 L) = (s1, s2, s3, s4) →
      CallsIn Fence.wide 0 Try.prog 123 #[.slice (some aa) na ca, .slice (some ab) nb cb, .slice (some ⟨g, 0, none⟩) m m] V fun e W' => e = .returned (.tuple #[.agg #[.int .i64 s1, .int .i64 s2, .int .i64 s3], .bool s4]) ∧ Below V.heap.size V W') :=
    ⟨fun L g m V s1 s2 s3 s4 a b c d e => try_in aa ab na nb ca cb g m l0 l1 L s1 s2 s3 s4 w V h0 h1 hna hnb hr0 hca hr1 hcb a b c d e⟩
  have HTRY : Aside0 (∀ (g : Nat) (V : World), Below w.heap.size w V → V.heap[g]? = some (.cells #[.int .i64 dx, .int .i64 dy, .int .i64 0] 75 (0, 0)) →
      CallsIn Fence.wide 0 Try.prog 123 #[.slice (some aa) na ca, .slice (some ab) nb cb, .slice (some ⟨g, 0, none⟩) 1 1] V fun e W' => e = .returned (.tuple #[.agg #[.int .i64 r1, .int .i64 r2, .int .i64 r3], .bool r4]) ∧ Below V.heap.size V W') :=
    ⟨fun g V a b => HTR.out [⟨dx, dy, 0⟩] g 1 V r1 r2 r3 r4 a (by simp) rfl (line1_C ⟨dx, dy, 0⟩ b) hr⟩
  have HNA := Aside0.mk hna
  have HNB := Aside0.mk hnb
  have HRA := Aside0.mk hr0
  have HRB := Aside0.mk hr1
  have HCA := Aside0.mk hca
  have HCB := Aside0.mk hcb
  have g1 : 0 < na := by omega
  have g2 : 0 < nb := by omega
  have g3 : (0 : Int) < (na : Int) := by omega
  have g4 : (0 : Int) < (nb : Int) := by omega
  rw [hna, hnb]
  obtain ⟨B, hB⟩ : ∃ B, w.heap.size = B := ⟨_, rfl⟩
  obtain ⟨W1, hW1⟩ : ∃ W1, (((w.alloc (.cells #[.slice (some aa) na ca] 53 (0, 0))).alloc (.cells #[.slice (some ab) nb cb] 53 (0, 0))).alloc (.cells (lineC z75) 75 (0, 0))).alloc (.cells #[.bool false] 4 (0, 0)) = W1 := ⟨_, rfl⟩
  have J1 : PInv B w (.slice (some aa) na ca) (.slice (some ab) nb cb) W1.heap.size [] W1 := by
    rw [← hW1]; subst hB
    refine ⟨((((Below.refl _ _).alloc (Nat.le_refl _) _).alloc (by simp) _).alloc (by simp; omega) _).alloc (by simp; omega) _, by simp, blk_alloc (blk_alloc (blk_alloc (blk_new _ _) _) _) _, ?_, ?_, ?_, trivial⟩
    · refine blk_alloc (blk_alloc ?_ _) _
      have := blk_new (w.alloc (.cells #[.slice (some aa) na ca] 53 (0, 0))) (.cells #[.slice (some ab) nb cb] 53 (0, 0))
      rwa [World.size_alloc] at this
    · refine blk_alloc ?_ _
      have := blk_new ((w.alloc (.cells #[.slice (some aa) na ca] 53 (0, 0))).alloc (.cells #[.slice (some ab) nb cb] 53 (0, 0))) (.cells (lineC z75) 75 (0, 0))
      rwa [World.size_alloc, World.size_alloc] at this
    · have := blk_new (((w.alloc (.cells #[.slice (some aa) na ca] 53 (0, 0))).alloc (.cells #[.slice (some ab) nb cb] 53 (0, 0))).alloc (.cells (lineC z75) 75 (0, 0))) (.cells #[.bool false] 4 (0, 0))
      rwa [World.size_alloc, World.size_alloc, World.size_alloc] at this
  have HW1 : Aside0 (Below w.heap.size w W1) := ⟨hB ▸ J1.below⟩
  replace xa0 := (HW1.out.cell (World.block_lt_of_cell? w _ xa0)).trans xa0
  replace xa1 := (HW1.out.cell (World.block_lt_of_cell? w _ xa1)).trans xa1
  replace xb0 := (HW1.out.cell (World.block_lt_of_cell? w _ xb0)).trans xb0
  replace xb1 := (HW1.out.cell (World.block_lt_of_cell? w _ xb1)).trans xb1
  have ca0 : W1.cell? ⟨B, 0, none⟩ = some (.slice (some aa) na ca) := (blk_cell J1.ha 0).trans rfl
  have cb0 : W1.cell? ⟨B + 1, 0, none⟩ = some (.slice (some ab) nb cb) := (blk_cell J1.hb 0).trans rfl
  have KA := Aside0.mk (blk_lt J1.ha)
  have KBB := Aside0.mk (blk_lt J1.hb)
  have J1A := Aside0.mk J1
  have HBe := Aside0.mk hB
  simp only [lineC, z75] at hW1
  clear ha0 hb0 hdx hdy hr hna hnb hr0 hr1 hca hcb J1 h0 h1 eA eB
  refine callsIn_of_wp_marks Try.func106 rfl trivial ?_ rfl
  simp only [Try.ntmps106, List.size_toArray, List.length_cons, List.length_nil, Nat.reduceAdd, Nat.reduceSub, Array.replicate_succ, Array.replicate_zero, List.push_toArray, List.append_toArray, List.nil_append, List.cons_append]
  gi_wp2
  refine wpIn_region_any (by kernel_rfl) ?_
  change wpAnyIn _ _ _ _ _ _ _ _ _ (World.drew W1)
  refine wpAnyIn_inv (fun listed a V' => ∃ gs g6 x6, a = { tmps := (.slice (some aa) na ca :: .slice (some ab) nb cb :: .pointer (some ⟨B, 0, none⟩) :: .pointer (some ⟨B + 1, 0, none⟩) :: .pointer (some ⟨B + 1 + 1, 0, none⟩) :: .pointer (some ⟨B + 1 + 1 + 1, 0, none⟩) :: selOr listed 26 (.pointer (some ⟨g6, 0, none⟩)) undef :: selOr listed 28 (.bool r4) undef :: undef :: undef :: undef :: undef :: undef :: undef :: undef :: undef :: selOr listed 23 (.tuple #[.agg #[.int .i64 r1, .int .i64 r2, .int .i64 r3], .bool r4]) undef :: selOr listed 0 (.slice (some aa) na ca) undef :: selOr listed 1 (.slice (some ab) nb cb) undef :: selOr listed 2 (.slice (some ab) nb cb) undef :: selOr listed 3 (.pointer (some ab)) undef :: selOr listed 4 (.pointer (some ab)) undef :: selOr listed 5 (.int .i64 b0.f0) undef :: selOr listed 6 (.slice (some aa) na ca) undef :: selOr listed 7 (.pointer (some aa)) undef :: selOr listed 8 (.pointer (some aa)) undef :: selOr listed 9 (.int .i64 a0.f0) undef :: selOr listed 10 (.int .i64 dx) undef :: selOr listed 11 (.slice (some ab) nb cb) undef :: selOr listed 12 (.pointer (some ab)) undef :: selOr listed 13 (.pointer (some ⟨ab.block, ab.off + 1, none⟩)) undef :: selOr listed 14 (.int .i64 b0.f1) undef :: selOr listed 15 (.slice (some aa) na ca) undef :: selOr listed 16 (.pointer (some aa)) undef :: selOr listed 17 (.pointer (some ⟨aa.block, aa.off + 1, none⟩)) undef :: selOr listed 18 (.int .i64 a0.f1) undef :: selOr listed 19 (.int .i64 dy) undef :: selOr listed 20 (.agg #[.int .i64 dx, .int .i64 dy, .int .i64 0]) undef :: selOr listed 21 (.slice (some ⟨gs, 0, none⟩) 1 1) undef :: selOr listed 22 (.tuple #[.agg #[.int .i64 r1, .int .i64 r2, .int .i64 r3], .bool r4]) undef :: selOr listed 24 (.agg #[.int .i64 r1, .int .i64 r2, .int .i64 r3]) undef :: selOr listed 25 (.bool r4) undef :: undef :: undef :: undef :: undef :: undef :: undef :: undef :: undef :: undef :: undef :: undef :: undef :: undef :: undef :: undef :: undef :: undef :: undef :: undef :: undef :: undef :: undef :: undef :: undef :: undef :: undef :: undef :: undef :: undef :: undef :: undef :: undef :: undef :: undef :: undef :: undef :: undef :: undef :: undef :: undef :: undef :: undef :: undef :: undef :: undef :: undef :: undef :: undef :: undef :: []).toArray, defers := [] } ∧ Below W1.heap.size W1 V' ∧ (listed.getD 21 false = true → listed.getD 22 false = false → V'.heap[gs]? = some (.cells #[.int .i64 dx, .int .i64 dy, .int .i64 0] 75 (0, 0))) ∧ (listed.getD 26 false = true → W1.heap.size ≤ g6 ∧ V'.heap[g6]? = some (.cells (lineC x6) 75 (0, 0))) ∧ (listed.getD 27 false = true → x6 = ⟨r1, r2, r3⟩)) 36 ?stepq ?stopq ?finq 29 _ _ _ (by simp) (closed_none _) ⟨0, 0, z75, by simp [selOr], (Below.refl _ _).drew, by simp, by simp, by simp⟩ (by simp)
  case stopq =>
    intro listed a V' fuel hs hc hi hr
    have := (ready_lt hr).1
    simp at hs
    omega
  case stepq =>
    rintro listed a V' i hs hc ⟨gs, g6, x6, rfl, q1, q2, q3, q4⟩ hr hne K hK
    obtain ⟨hlt', hl0⟩ := ready_lt hr
    have cca0 := (q1.cell (p := ⟨B, 0, none⟩) KA.out).trans ca0
    have ccb0 := (q1.cell (p := ⟨B + 1, 0, none⟩) KBB.out).trans cb0
    have cxa0 := (q1.cell (World.block_lt_of_cell? W1 _ xa0)).trans xa0
    have cxa1 := (q1.cell (World.block_lt_of_cell? W1 _ xa1)).trans xa1
    have cxb0 := (q1.cell (World.block_lt_of_cell? W1 _ xb0)).trans xb0
    have cxb1 := (q1.cell (World.block_lt_of_cell? W1 _ xb1)).trans xb1
    clear ca0 cb0 xa0 xa1 xb0 xb1
    have hwV : Below w.heap.size w V' := HW1.out.trans (q1.mono HW1.out.size)
    have hi : i = 0 ∨ i = 1 ∨ i = 2 ∨ i = 3 ∨ i = 4 ∨ i = 5 ∨ i = 6 ∨ i = 7 ∨ i = 8 ∨ i = 9 ∨ i = 10 ∨ i = 11 ∨ i = 12 ∨ i = 13 ∨ i = 14 ∨ i = 15 ∨ i = 16 ∨ i = 17 ∨ i = 18 ∨ i = 19 ∨ i = 20 ∨ i = 21 ∨ i = 22 ∨ i = 23 ∨ i = 24 ∨ i = 25 ∨ i = 26 ∨ i = 27 ∨ i = 28 := by simp at hs; omega
    rcases hi with rfl | rfl | rfl | rfl | rfl | rfl | rfl | rfl | rfl | rfl | rfl | rfl | rfl | rfl | rfl | rfl | rfl | rfl | rfl | rfl | rfl | rfl | rfl | rfl | rfl | rfl | rfl | rfl | rfl
    · skip
      refine wpOpIn_of rfl rfl ?_
      clear hr hl0
      gi_wp2
      refine ⟨gs, g6, x6, ?_, q1, (by rw [getD_other hlt' (by decide), getD_other hlt' (by decide)]; exact q2), (by rw [getD_other hlt' (by decide)]; exact q3), (by rw [getD_other hlt' (by decide)]; exact q4)⟩
      simp (disch := decide) only [selOr_same hlt', selOr_other hlt']
    · skip
      refine wpOpIn_of rfl rfl ?_
      clear hr hl0
      gi_wp2
      refine ⟨gs, g6, x6, ?_, q1, (by rw [getD_other hlt' (by decide), getD_other hlt' (by decide)]; exact q2), (by rw [getD_other hlt' (by decide)]; exact q3), (by rw [getD_other hlt' (by decide)]; exact q4)⟩
      simp (disch := decide) only [selOr_same hlt', selOr_other hlt']
    · skip
      refine wpOpIn_of rfl rfl ?_
      clear hr hl0
      gi_wp2
      refine ⟨gs, g6, x6, ?_, q1, (by rw [getD_other hlt' (by decide), getD_other hlt' (by decide)]; exact q2), (by rw [getD_other hlt' (by decide)]; exact q3), (by rw [getD_other hlt' (by decide)]; exact q4)⟩
      simp (disch := decide) only [selOr_same hlt', selOr_other hlt']
    · have d2 : listed.getD 2 false = true := ready_after hr rfl { on := 2, ground := .data } (by simp) rfl
      simp only [selOr_on d2]
      refine wpOpIn_of rfl rfl ?_
      clear hr hl0
      gi_wp2
      refine ⟨gs, g6, x6, ?_, q1, (by rw [getD_other hlt' (by decide), getD_other hlt' (by decide)]; exact q2), (by rw [getD_other hlt' (by decide)]; exact q3), (by rw [getD_other hlt' (by decide)]; exact q4)⟩
      simp (disch := decide) only [selOr_same hlt', selOr_other hlt', selOr_on d2]
    · have d3 : listed.getD 3 false = true := ready_after hr rfl { on := 3, ground := .data } (by simp) rfl
      simp only [selOr_on d3]
      refine wpOpIn_of rfl rfl ?_
      clear hr hl0
      gi_wp2
      refine ⟨gs, g6, x6, ?_, q1, (by rw [getD_other hlt' (by decide), getD_other hlt' (by decide)]; exact q2), (by rw [getD_other hlt' (by decide)]; exact q3), (by rw [getD_other hlt' (by decide)]; exact q4)⟩
      simp (disch := decide) only [selOr_same hlt', selOr_other hlt', selOr_on d3]
    · have d4 : listed.getD 4 false = true := ready_after hr rfl { on := 4, ground := .data } (by simp) rfl
      simp only [selOr_on d4]
      refine wpOpIn_of rfl rfl ?_
      clear hr hl0
      gi_wp2
      refine ⟨gs, g6, x6, ?_, q1, (by rw [getD_other hlt' (by decide), getD_other hlt' (by decide)]; exact q2), (by rw [getD_other hlt' (by decide)]; exact q3), (by rw [getD_other hlt' (by decide)]; exact q4)⟩
      simp (disch := decide) only [selOr_same hlt', selOr_other hlt', selOr_on d4]
    · skip
      refine wpOpIn_of rfl rfl ?_
      clear hr hl0
      gi_wp2
      refine ⟨gs, g6, x6, ?_, q1, (by rw [getD_other hlt' (by decide), getD_other hlt' (by decide)]; exact q2), (by rw [getD_other hlt' (by decide)]; exact q3), (by rw [getD_other hlt' (by decide)]; exact q4)⟩
      simp (disch := decide) only [selOr_same hlt', selOr_other hlt']
    · have d6 : listed.getD 6 false = true := ready_after hr rfl { on := 6, ground := .data } (by simp) rfl
      simp only [selOr_on d6]
      refine wpOpIn_of rfl rfl ?_
      clear hr hl0
      gi_wp2
      refine ⟨gs, g6, x6, ?_, q1, (by rw [getD_other hlt' (by decide), getD_other hlt' (by decide)]; exact q2), (by rw [getD_other hlt' (by decide)]; exact q3), (by rw [getD_other hlt' (by decide)]; exact q4)⟩
      simp (disch := decide) only [selOr_same hlt', selOr_other hlt', selOr_on d6]
    · have d7 : listed.getD 7 false = true := ready_after hr rfl { on := 7, ground := .data } (by simp) rfl
      simp only [selOr_on d7]
      refine wpOpIn_of rfl rfl ?_
      clear hr hl0
      gi_wp2
      refine ⟨gs, g6, x6, ?_, q1, (by rw [getD_other hlt' (by decide), getD_other hlt' (by decide)]; exact q2), (by rw [getD_other hlt' (by decide)]; exact q3), (by rw [getD_other hlt' (by decide)]; exact q4)⟩
      simp (disch := decide) only [selOr_same hlt', selOr_other hlt', selOr_on d7]
    · have d8 : listed.getD 8 false = true := ready_after hr rfl { on := 8, ground := .data } (by simp) rfl
      simp only [selOr_on d8]
      refine wpOpIn_of rfl rfl ?_
      clear hr hl0
      gi_wp2
      refine ⟨gs, g6, x6, ?_, q1, (by rw [getD_other hlt' (by decide), getD_other hlt' (by decide)]; exact q2), (by rw [getD_other hlt' (by decide)]; exact q3), (by rw [getD_other hlt' (by decide)]; exact q4)⟩
      simp (disch := decide) only [selOr_same hlt', selOr_other hlt', selOr_on d8]
    · have d5 : listed.getD 5 false = true := ready_after hr rfl { on := 5, ground := .data } (by simp) rfl
      have d9 : listed.getD 9 false = true := ready_after hr rfl { on := 9, ground := .data } (by simp) rfl
      simp only [selOr_on d5, selOr_on d9]
      refine wpOpIn_of rfl rfl ?_
      clear hr hl0
      gi_wp2
      refine ⟨gs, g6, x6, ?_, q1, (by rw [getD_other hlt' (by decide), getD_other hlt' (by decide)]; exact q2), (by rw [getD_other hlt' (by decide)]; exact q3), (by rw [getD_other hlt' (by decide)]; exact q4)⟩
      simp (disch := decide) only [selOr_same hlt', selOr_other hlt', selOr_on d5, selOr_on d9]
    · skip
      refine wpOpIn_of rfl rfl ?_
      clear hr hl0
      gi_wp2
      refine ⟨gs, g6, x6, ?_, q1, (by rw [getD_other hlt' (by decide), getD_other hlt' (by decide)]; exact q2), (by rw [getD_other hlt' (by decide)]; exact q3), (by rw [getD_other hlt' (by decide)]; exact q4)⟩
      simp (disch := decide) only [selOr_same hlt', selOr_other hlt']
    · have d11 : listed.getD 11 false = true := ready_after hr rfl { on := 11, ground := .data } (by simp) rfl
      simp only [selOr_on d11]
      refine wpOpIn_of rfl rfl ?_
      clear hr hl0
      gi_wp2
      refine ⟨gs, g6, x6, ?_, q1, (by rw [getD_other hlt' (by decide), getD_other hlt' (by decide)]; exact q2), (by rw [getD_other hlt' (by decide)]; exact q3), (by rw [getD_other hlt' (by decide)]; exact q4)⟩
      simp (disch := decide) only [selOr_same hlt', selOr_other hlt', selOr_on d11]
    · have d12 : listed.getD 12 false = true := ready_after hr rfl { on := 12, ground := .data } (by simp) rfl
      simp only [selOr_on d12]
      refine wpOpIn_of rfl rfl ?_
      clear hr hl0
      gi_wp2
      refine ⟨gs, g6, x6, ?_, q1, (by rw [getD_other hlt' (by decide), getD_other hlt' (by decide)]; exact q2), (by rw [getD_other hlt' (by decide)]; exact q3), (by rw [getD_other hlt' (by decide)]; exact q4)⟩
      simp (disch := decide) only [selOr_same hlt', selOr_other hlt', selOr_on d12]
    · have d13 : listed.getD 13 false = true := ready_after hr rfl { on := 13, ground := .data } (by simp) rfl
      simp only [selOr_on d13]
      refine wpOpIn_of rfl rfl ?_
      clear hr hl0
      gi_wp2
      refine ⟨gs, g6, x6, ?_, q1, (by rw [getD_other hlt' (by decide), getD_other hlt' (by decide)]; exact q2), (by rw [getD_other hlt' (by decide)]; exact q3), (by rw [getD_other hlt' (by decide)]; exact q4)⟩
      simp (disch := decide) only [selOr_same hlt', selOr_other hlt', selOr_on d13]
    · skip
      refine wpOpIn_of rfl rfl ?_
      clear hr hl0
      gi_wp2
      refine ⟨gs, g6, x6, ?_, q1, (by rw [getD_other hlt' (by decide), getD_other hlt' (by decide)]; exact q2), (by rw [getD_other hlt' (by decide)]; exact q3), (by rw [getD_other hlt' (by decide)]; exact q4)⟩
      simp (disch := decide) only [selOr_same hlt', selOr_other hlt']
    · have d15 : listed.getD 15 false = true := ready_after hr rfl { on := 15, ground := .data } (by simp) rfl
      simp only [selOr_on d15]
      refine wpOpIn_of rfl rfl ?_
      clear hr hl0
      gi_wp2
      refine ⟨gs, g6, x6, ?_, q1, (by rw [getD_other hlt' (by decide), getD_other hlt' (by decide)]; exact q2), (by rw [getD_other hlt' (by decide)]; exact q3), (by rw [getD_other hlt' (by decide)]; exact q4)⟩
      simp (disch := decide) only [selOr_same hlt', selOr_other hlt', selOr_on d15]
    · have d16 : listed.getD 16 false = true := ready_after hr rfl { on := 16, ground := .data } (by simp) rfl
      simp only [selOr_on d16]
      refine wpOpIn_of rfl rfl ?_
      clear hr hl0
      gi_wp2
      refine ⟨gs, g6, x6, ?_, q1, (by rw [getD_other hlt' (by decide), getD_other hlt' (by decide)]; exact q2), (by rw [getD_other hlt' (by decide)]; exact q3), (by rw [getD_other hlt' (by decide)]; exact q4)⟩
      simp (disch := decide) only [selOr_same hlt', selOr_other hlt', selOr_on d16]
    · have d17 : listed.getD 17 false = true := ready_after hr rfl { on := 17, ground := .data } (by simp) rfl
      simp only [selOr_on d17]
      refine wpOpIn_of rfl rfl ?_
      clear hr hl0
      gi_wp2
      refine ⟨gs, g6, x6, ?_, q1, (by rw [getD_other hlt' (by decide), getD_other hlt' (by decide)]; exact q2), (by rw [getD_other hlt' (by decide)]; exact q3), (by rw [getD_other hlt' (by decide)]; exact q4)⟩
      simp (disch := decide) only [selOr_same hlt', selOr_other hlt', selOr_on d17]
    · have d14 : listed.getD 14 false = true := ready_after hr rfl { on := 14, ground := .data } (by simp) rfl
      have d18 : listed.getD 18 false = true := ready_after hr rfl { on := 18, ground := .data } (by simp) rfl
      simp only [selOr_on d14, selOr_on d18]
      refine wpOpIn_of rfl rfl ?_
      clear hr hl0
      gi_wp2
      refine ⟨gs, g6, x6, ?_, q1, (by rw [getD_other hlt' (by decide), getD_other hlt' (by decide)]; exact q2), (by rw [getD_other hlt' (by decide)]; exact q3), (by rw [getD_other hlt' (by decide)]; exact q4)⟩
      simp (disch := decide) only [selOr_same hlt', selOr_other hlt', selOr_on d14, selOr_on d18]
    · have d10 : listed.getD 10 false = true := ready_after hr rfl { on := 10, ground := .data } (by simp) rfl
      have d19 : listed.getD 19 false = true := ready_after hr rfl { on := 19, ground := .data } (by simp) rfl
      simp only [selOr_on d10, selOr_on d19]
      refine wpOpIn_of rfl rfl ?_
      clear hr hl0
      gi_wp2
      refine ⟨gs, g6, x6, ?_, q1, (by rw [getD_other hlt' (by decide), getD_other hlt' (by decide)]; exact q2), (by rw [getD_other hlt' (by decide)]; exact q3), (by rw [getD_other hlt' (by decide)]; exact q4)⟩
      simp (disch := decide) only [selOr_same hlt', selOr_other hlt', selOr_on d10, selOr_on d19]
    · have d20 : listed.getD 20 false = true := ready_after hr rfl { on := 20, ground := .data } (by simp) rfl
      simp only [selOr_on d20]
      refine wpOpIn_of rfl rfl ?_
      gi_wp2
      have hq : Below V'.heap.size V' (V'.alloc (.cells #[.int .i64 dx, .int .i64 dy, .int .i64 0] 75 (0, 0))) := (Below.refl _ _).alloc (Nat.le_refl _) _
      refine ⟨V'.heap.size, g6, x6, ?_, q1.trans (hq.mono q1.size), fun _ _ => blk_new _ _, fun h => ?_, (by rw [getD_other hlt' (by decide)]; exact q4)⟩
      · have n22 : listed.getD 22 false = false := by
          cases z : listed.getD 22 false
          · rfl
          · have := hc 22 _ rfl z { on := 21, ground := .data } (by simp) rfl
            rw [hl0] at this; cases this
        simp (disch := decide) only [selOr_same hlt', selOr_other hlt', selOr_on d20]
      · rw [getD_other hlt' (by decide)] at h; exact ⟨(q3 h).1, keep_below hq (blk_lt (q3 h).2) (q3 h).2⟩
    · have d0 : listed.getD 0 false = true := ready_after hr rfl { on := 0, ground := .data } (by simp) rfl
      have d1 : listed.getD 1 false = true := ready_after hr rfl { on := 1, ground := .data } (by simp) rfl
      have d21 : listed.getD 21 false = true := ready_after hr rfl { on := 21, ground := .data } (by simp) rfl
      simp only [selOr_on d0, selOr_on d1, selOr_on d21]
      refine wpOpIn_of rfl rfl ?_
      gi_wp2
      refine ⟨trivial, rfl, (HTRY.out gs V' hwV (q2 d21 hl0)).mono ?_⟩
      rintro e V5 ⟨rfl, hb5⟩
      gi_wp2
      refine ⟨gs, g6, x6, ?_, q1.trans (hb5.mono q1.size), fun _ h => (by rw [getD_same hlt'] at h; cases h), fun h => ?_, (by rw [getD_other hlt' (by decide)]; exact q4)⟩
      · simp (disch := decide) only [selOr_same hlt', selOr_other hlt', selOr_on d0, selOr_on d1, selOr_on d21]
      · rw [getD_other hlt' (by decide)] at h; exact ⟨(q3 h).1, keep_below hb5 (blk_lt (q3 h).2) (q3 h).2⟩
    · have d22 : listed.getD 22 false = true := ready_after hr rfl { on := 22, ground := .data } (by simp) rfl
      simp only [selOr_on d22]
      refine wpOpIn_of rfl rfl ?_
      clear hr hl0
      gi_wp2
      refine ⟨gs, g6, x6, ?_, q1, (by rw [getD_other hlt' (by decide), getD_other hlt' (by decide)]; exact q2), (by rw [getD_other hlt' (by decide)]; exact q3), (by rw [getD_other hlt' (by decide)]; exact q4)⟩
      simp (disch := decide) only [selOr_same hlt', selOr_other hlt', selOr_on d22]
    · have d23 : listed.getD 23 false = true := ready_after hr rfl { on := 23, ground := .data } (by simp) rfl
      simp only [selOr_on d23]
      refine wpOpIn_of rfl rfl ?_
      clear hr hl0
      gi_wp2
      refine ⟨gs, g6, x6, ?_, q1, (by rw [getD_other hlt' (by decide), getD_other hlt' (by decide)]; exact q2), (by rw [getD_other hlt' (by decide)]; exact q3), (by rw [getD_other hlt' (by decide)]; exact q4)⟩
      simp (disch := decide) only [selOr_same hlt', selOr_other hlt', selOr_on d23]
    · have d23 : listed.getD 23 false = true := ready_after hr rfl { on := 23, ground := .data } (by simp) rfl
      simp only [selOr_on d23]
      refine wpOpIn_of rfl rfl ?_
      clear hr hl0
      gi_wp2
      refine ⟨gs, g6, x6, ?_, q1, (by rw [getD_other hlt' (by decide), getD_other hlt' (by decide)]; exact q2), (by rw [getD_other hlt' (by decide)]; exact q3), (by rw [getD_other hlt' (by decide)]; exact q4)⟩
      simp (disch := decide) only [selOr_same hlt', selOr_other hlt', selOr_on d23]
    · skip
      refine wpOpIn_of rfl rfl ?_
      gi_wp2
      have hq : Below V'.heap.size V' (V'.alloc (.cells (lineC z75) 75 (0, 0))) := (Below.refl _ _).alloc (Nat.le_refl _) _
      have n27 : listed.getD 27 false = false := by
        cases z : listed.getD 27 false
        · rfl
        · have := hc 27 _ rfl z { on := 26, ground := .data } (by simp) rfl
          rw [hl0] at this; cases this
      refine ⟨gs, V'.heap.size, z75, ?_, q1.trans (hq.mono q1.size), fun h21 h22 => ?_, fun _ => ⟨q1.size, blk_new _ _⟩, fun h => (by rw [getD_other hlt' (by decide), n27] at h; cases h)⟩
      · simp (disch := decide) only [selOr_same hlt', selOr_other hlt']
      · rw [getD_other hlt' (by decide)] at h21 h22; exact keep_below hq (blk_lt (q2 h21 h22)) (q2 h21 h22)
    · have d26 : listed.getD 26 false = true := ready_after hr rfl { on := 26, ground := .data } (by simp) rfl
      have d24 : listed.getD 24 false = true := ready_after hr rfl { on := 24, ground := .data } (by simp) rfl
      simp only [selOr_on d26, selOr_on d24]
      refine wpOpIn_of rfl rfl ?_
      have d22 : listed.getD 22 false = true := hc 23 _ rfl (hc 24 _ rfl d24 { on := 23, ground := .data } (by simp) rfl) { on := 22, ground := .data } (by simp) rfl
      have k6 := q3 d26
      have hp1 := put3_blk (⟨r1, r2, r3⟩ : S75) k6.2
      have hp2 := put3_below (V := V') (x := (⟨r1, r2, r3⟩ : S75)) k6.1
      unfold put3 at hp1 hp2
      dsimp only at hp1 hp2
      obtain ⟨⟨o0, o1, o2⟩, f0, f1, f2⟩ := line_cells k6.2
      clear hr hl0
      gi_wp2
      refine ⟨gs, g6, ⟨r1, r2, r3⟩, ?_, q1.trans hp2, fun _ h => (by rw [getD_other hlt' (by decide), d22] at h; cases h), fun _ => ⟨k6.1, hp1⟩, fun _ => rfl⟩
      simp (disch := decide) only [selOr_same hlt', selOr_other hlt', selOr_on d26, selOr_on d24]
    · have d25 : listed.getD 25 false = true := ready_after hr rfl { on := 25, ground := .data } (by simp) rfl
      simp only [selOr_on d25]
      refine wpOpIn_of rfl rfl ?_
      clear hr hl0
      gi_wp2
      refine ⟨gs, g6, x6, ?_, q1, (by rw [getD_other hlt' (by decide), getD_other hlt' (by decide)]; exact q2), (by rw [getD_other hlt' (by decide)]; exact q3), (by rw [getD_other hlt' (by decide)]; exact q4)⟩
      simp (disch := decide) only [selOr_same hlt', selOr_other hlt', selOr_on d25]
  case finq =>
    rintro listed a V' hs ⟨gs, g6, x6, rfl, q1, q2, q3, q4⟩ hr
    have all : ∀ j, j < 29 → listed.getD j false = true := fun j hj => by
      cases q : listed.getD j false
      · exact absurd hr (ready_ne hs (by kernel_rfl) j (by simpa using hj) q)
      · rfl
    simp only [selOr_on (all 0 (by decide)), selOr_on (all 1 (by decide)), selOr_on (all 2 (by decide)), selOr_on (all 3 (by decide)), selOr_on (all 4 (by decide)), selOr_on (all 5 (by decide)), selOr_on (all 6 (by decide)), selOr_on (all 7 (by decide)), selOr_on (all 8 (by decide)), selOr_on (all 9 (by decide)), selOr_on (all 10 (by decide)), selOr_on (all 11 (by decide)), selOr_on (all 12 (by decide)), selOr_on (all 13 (by decide)), selOr_on (all 14 (by decide)), selOr_on (all 15 (by decide)), selOr_on (all 16 (by decide)), selOr_on (all 17 (by decide)), selOr_on (all 18 (by decide)), selOr_on (all 19 (by decide)), selOr_on (all 20 (by decide)), selOr_on (all 21 (by decide)), selOr_on (all 22 (by decide)), selOr_on (all 23 (by decide)), selOr_on (all 24 (by decide)), selOr_on (all 25 (by decide)), selOr_on (all 26 (by decide)), selOr_on (all 28 (by decide))]
    clear hr hs
    have k6 := q3 (all 26 (by decide))
    obtain rfl := q4 (all 27 (by decide))
    clear all q2 q3 q4 ca0 cb0 xa0 xa1 xb0 xb1 w1 w2 hW1 g1 g2 g3 g4
    have J2 := J1A.out.step q1 (Nat.le_refl _)
    obtain ⟨o, ho⟩ : ∃ o, tryO l0 l1 [⟨dx, dy, 0⟩] = o := ⟨_, rfl⟩
    have hr := HR.out
    rw [ho] at hr
    cases o with
    | some x =>
      simp only [lineR, Prod.mk.injEq] at hr
      obtain ⟨rfl, rfl, rfl, rfl⟩ := hr
      have HRES : Aside0 (lineR (tryO l0 l1 (partL l0 l1)) = (x.f0, x.f1, x.f2, true)) := ⟨by
        rw [HPL.out, show (⟨dx, dy, 0⟩ : S75) :: (dirs l0 ++ dirs l1) = [⟨dx, dy, 0⟩] ++ (dirs l0 ++ dirs l1) from rfl, tryO_append, ho]; rfl⟩
      obtain ⟨⟨y0, y1, y2⟩, _⟩ := line_cells k6.2
      obtain ⟨⟨o0, o1, o2⟩, f0, f1, f2⟩ := line_cells J2.hl
      have fb := blk_frozen J2.hf 0
      have cb : V'.cell? ⟨B + 1 + 1 + 1, 0, none⟩ = some (.bool false) := (blk_cell J2.hf 0).trans rfl
      have HP := Aside0.mk (part_store x.f0 x.f1 x.f2 true J2)
      clear ho J2 k6 q1
      gi_wp2
      have HE := HP.out.1
      refine leaves_coll (B := B + 4) _ _ _ HE.coll fun W' hW' => ?_
      have hEs := HE.size
      refine ⟨_, results_lb rfl _ _ (B + 1 + 1) (lineC ⟨x.f0, x.f1, x.f2⟩) (B + 1 + 1 + 1) (.bool true) rfl rfl ((hW'.block _ (by omega)).trans HE.hl) ((blk_cell ((hW'.block _ (by omega)).trans HE.hf) 0).trans rfl) rfl, ?_⟩
      exact ⟨by rw [HRES.out]; rfl, HBe.out ▸ HE.below.trans (hW'.mono (by omega))⟩
    | none =>
      simp only [lineR, Prod.mk.injEq] at hr
      obtain ⟨rfl, rfl, rfl, rfl⟩ := hr
      have HO := Aside0.mk ho
      have ca0 : V'.cell? ⟨B, 0, none⟩ = some (.slice (some aa) na ca) := (blk_cell J2.ha 0).trans rfl
      have cb0 : V'.cell? ⟨B + 1, 0, none⟩ = some (.slice (some ab) nb cb) := (blk_cell J2.hb 0).trans rfl
      have HJ := Aside0.mk J2
      clear ho k6 J2 q1
      gi_wp2
      refine wpIn_loop (fun a W => ∃ (k : Nat) (ds : List Deferred) (u9 u48 u49 u50 u51 u89 : Value), a = { tmps := (.slice (some aa) na ca :: .slice (some ab) nb cb :: .pointer (some ⟨B, 0, none⟩) :: .pointer (some ⟨B + 1, 0, none⟩) :: .pointer (some ⟨B + 1 + 1, 0, none⟩) :: .pointer (some ⟨B + 1 + 1 + 1, 0, none⟩) :: .pointer (some ⟨g6, 0, none⟩) :: .bool false :: undef :: u9 :: undef :: undef :: undef :: undef :: undef :: undef :: .tuple #[.agg #[.int .i64 0, .int .i64 0, .int .i64 0], .bool false] :: .slice (some aa) na ca :: .slice (some ab) nb cb :: .slice (some ab) nb cb :: .pointer (some ab) :: .pointer (some ab) :: .int .i64 b0.f0 :: .slice (some aa) na ca :: .pointer (some aa) :: .pointer (some aa) :: .int .i64 a0.f0 :: .int .i64 dx :: .slice (some ab) nb cb :: .pointer (some ab) :: .pointer (some ⟨ab.block, ab.off + 1, none⟩) :: .int .i64 b0.f1 :: .slice (some aa) na ca :: .pointer (some aa) :: .pointer (some ⟨aa.block, aa.off + 1, none⟩) :: .int .i64 a0.f1 :: .int .i64 dy :: .agg #[.int .i64 dx, .int .i64 dy, .int .i64 0] :: .slice (some ⟨gs, 0, none⟩) 1 1 :: .tuple #[.agg #[.int .i64 0, .int .i64 0, .int .i64 0], .bool false] :: .agg #[.int .i64 0, .int .i64 0, .int .i64 0] :: .bool false :: .bool false :: undef :: .slice (some aa) na ca :: .slice (some ab) nb cb :: .agg #[.slice (some aa) na ca, .slice (some ab) nb cb] :: .int .i64 (k : Int) :: u48 :: u49 :: u50 :: u51 :: undef :: undef :: undef :: undef :: undef :: undef :: undef :: undef :: undef :: undef :: undef :: undef :: undef :: undef :: undef :: undef :: undef :: undef :: undef :: undef :: undef :: undef :: undef :: undef :: undef :: undef :: undef :: undef :: undef :: undef :: undef :: undef :: undef :: undef :: undef :: undef :: undef :: u89 :: undef :: []).toArray, defers := ds } ∧ k ≤ 2 ∧ ((1 ≤ k → tryO l0 l1 (dirs l0) = none) ∧ (2 ≤ k → tryO l0 l1 (dirs l1) = none)) ∧ PInv B w (.slice (some aa) na ca) (.slice (some ab) nb cb) W.heap.size ds W)
        (fun a _ => 2 - (intOf (a.tmps.getD 47 undef)).toNat) ⟨0, [], _, _, _, _, _, _, rfl, Nat.zero_le _, ⟨fun h => absurd h (by omega), fun h => absurd h (by omega)⟩, HJ.out.up⟩ ?_
      intro _ W hI
      obtain ⟨k, hI⟩ := hI
      obtain ⟨ds, hI⟩ := hI
      obtain ⟨u9, hI⟩ := hI
      obtain ⟨u48, hI⟩ := hI
      obtain ⟨u49, hI⟩ := hI
      obtain ⟨u50, hI⟩ := hI
      obtain ⟨u51, hI⟩ := hI
      obtain ⟨u89, hI⟩ := hI
      obtain ⟨ha, hk, hnone, I⟩ := hI
      subst ha
      dsimp only
      by_cases hlt : k < 2
      · obtain ⟨h, ah, nh, chh, hcase⟩ : ∃ (h : List S23) (ah : Addr) (nh chh : Nat), (k = 0 ∧ h = l0 ∧ ah = aa ∧ nh = na ∧ chh = ca) ∨ (k = 1 ∧ h = l1 ∧ ah = ab ∧ nh = nb ∧ chh = cb) := by
          rcases (show k = 0 ∨ k = 1 by omega) with e | e
          · exact ⟨l0, aa, na, ca, .inl ⟨e, rfl, rfl, rfl, rfl⟩⟩
          · exact ⟨l1, ab, nb, cb, .inr ⟨e, rfl, rfl, rfl, rfl⟩⟩
        have hidx : ∀ w, (Instr.index 130 (.agg #[.slice (some aa) na ca, .slice (some ab) nb cb]) (.int .i64 (k : Int))).run Try.prog w = .ok (.slice (some ah) nh chh) w := by
          rcases hcase with ⟨rfl, rfl, rfl, rfl, rfl⟩ | ⟨rfl, rfl, rfl, rfl, rfl⟩
          · intro w; rfl
          · intro w; rfl
        have hrh : Kd.C k23 w (some ah) h.length h := by
          rcases hcase with ⟨_, rfl, rfl, _, _⟩ | ⟨_, rfl, rfl, _, _⟩
          · exact HRA.out
          · exact HRB.out
        have hnh : h.length = nh := by
          rcases hcase with ⟨_, rfl, _, rfl, _⟩ | ⟨_, rfl, _, rfl, _⟩
          · exact HNA.out
          · exact HNB.out
        have HCS := Aside0.mk hcase
        have HN := Aside0.mk hnone
        have HRH := Aside0.mk hrh
        have HNH := Aside0.mk hnh
        have HIV := Aside0.mk I
        clear hcase hnone hrh hnh I
        gi_wp2
        refine ⟨trivial, rfl, (sides_make _ _ _ _).mono ?_⟩
        rintro e W2 ⟨rfl, hW2⟩
        have hb2 : Below W.heap.size W W2 := by rw [hW2]; exact (Below.refl _ _).alloc (Nat.le_refl _) _
        have p1 : W2.heap[W.heap.size]? = some (.cells #[.slice (some ah) nh chh] 53 (0, 0)) := by rw [hW2]; exact blk_new _ _
        have s2 : W2.heap.size = W.heap.size + 1 := by rw [hW2]; simp
        have I2 := HIV.out.step hb2 (Nat.le_refl _)
        have I3 : PInv B w (.slice (some aa) na ca) (.slice (some ab) nb cb) W2.heap.size ds W2 := ⟨I2.below, ⟨by have := I2.size; omega, Nat.le_refl _⟩, I2.ha, I2.hb, I2.hl, I2.hf, I2.coll.mono (by omega)⟩
        have hseq := sides_seq W.heap.size chh (some ah) h W2 (by rw [HNH.out]; exact p1) (Kd.C_below HRH.out (HBe.out ▸ I2.below))
        have HSQ := Aside0.mk hseq
        have HI3 := Aside0.mk I3
        have HS2 := Aside0.mk s2
        clear hb2 p1 I2 I3 hseq hW2 s2
        gi_wp2
        refine wpIn_rangeFunc_S (gf := 120) (lb := #[.pointer (some ⟨W.heap.size, 0, none⟩)]) rfl (enters_of Try.func120 (by kernel_rfl) rfl) (encs := ptV2) (L := sideL h) (w0 := W2) HSQ.out (Below.refl _ _) (fun _ => rfl)
          (fun pre V => PInv B w (.slice (some aa) na ca) (.slice (some ab) nb cb) W2.heap.size ds V ∧ tryO l0 l1 (pre.flatMap dir4) = none)
          (fun pre V => ∃ x, tryO l0 l1 (dirs h) = some x ∧ PEnd B w W2.heap.size ds x true V)
          ?hI ?hIx ?hIp ?hIxp ⟨HI3.out, rfl⟩
          (fun x a' V => ∃ Bp Bq, W2.heap.size + 2 ≤ Bp ∧ W2.heap.size + 2 ≤ Bq ∧ V.heap[Bp]? = some (.cells #[.int .i64 x.1.f0, .int .i64 x.1.f1] 23 (0, 0)) ∧ V.heap[Bq]? = some (.cells #[.int .i64 x.2.f0, .int .i64 x.2.f1] 23 (0, 0)) ∧ a' = { tmps := (.slice (some aa) na ca :: .slice (some ab) nb cb :: .pointer (some ⟨B, 0, none⟩) :: .pointer (some ⟨B + 1, 0, none⟩) :: .pointer (some ⟨B + 1 + 1, 0, none⟩) :: .pointer (some ⟨B + 1 + 1 + 1, 0, none⟩) :: .pointer (some ⟨g6, 0, none⟩) :: .bool false :: undef :: .slice (some ah) nh chh :: .pointer (some ⟨Bp, 0, none⟩) :: .pointer (some ⟨Bq, 0, none⟩) :: undef :: undef :: undef :: undef :: .tuple #[.agg #[.int .i64 0, .int .i64 0, .int .i64 0], .bool false] :: .slice (some aa) na ca :: .slice (some ab) nb cb :: .slice (some ab) nb cb :: .pointer (some ab) :: .pointer (some ab) :: .int .i64 b0.f0 :: .slice (some aa) na ca :: .pointer (some aa) :: .pointer (some aa) :: .int .i64 a0.f0 :: .int .i64 dx :: .slice (some ab) nb cb :: .pointer (some ab) :: .pointer (some ⟨ab.block, ab.off + 1, none⟩) :: .int .i64 b0.f1 :: .slice (some aa) na ca :: .pointer (some aa) :: .pointer (some ⟨aa.block, aa.off + 1, none⟩) :: .int .i64 a0.f1 :: .int .i64 dy :: .agg #[.int .i64 dx, .int .i64 dy, .int .i64 0] :: .slice (some ⟨gs, 0, none⟩) 1 1 :: .tuple #[.agg #[.int .i64 0, .int .i64 0, .int .i64 0], .bool false] :: .agg #[.int .i64 0, .int .i64 0, .int .i64 0] :: .bool false :: .bool false :: undef :: .slice (some aa) na ca :: .slice (some ab) nb cb :: .agg #[.slice (some aa) na ca, .slice (some ab) nb cb] :: .int .i64 (k : Int) :: .bool true :: .slice (some ah) nh chh :: .slice (some ah) nh chh :: .func (.func 120) #[] #[.pointer (some ⟨W.heap.size, 0, none⟩)] :: .agg #[.int .i64 x.1.f0, .int .i64 x.1.f1] :: .agg #[.int .i64 x.2.f0, .int .i64 x.2.f1] :: undef :: undef :: undef :: undef :: undef :: undef :: undef :: undef :: undef :: undef :: undef :: undef :: undef :: undef :: undef :: undef :: undef :: undef :: undef :: undef :: undef :: undef :: undef :: undef :: undef :: undef :: undef :: undef :: undef :: undef :: undef :: undef :: undef :: undef :: undef :: u89 :: undef :: []).toArray, defers := [] })
          ?hAx ?assign ?body ?done ?stop
        case hI =>
          rintro s A V ⟨g1, g2⟩ hb
          exact ⟨g1.step hb g1.size.2, g2⟩
        case hIx =>
          rintro s A V ⟨x, g1, g2⟩ hb
          exact ⟨x, g1, g2.step hb g2.size.2⟩
        case hIp =>
          rintro s V o r ⟨g1, g2⟩ hr
          exact ⟨g1.step (below_putObj (B := W2.heap.size) V o (by omega)) (Nat.le_refl _), g2⟩
        case hIxp =>
          rintro s V o r ⟨x, g1, g2⟩ hr
          exact ⟨x, g1, g2.step (below_putObj (B := W2.heap.size) V o (by omega)) (Nat.le_refl _)⟩
        case hAx =>
          rintro x a' V r o ⟨Bp, Bq, h1, h2, h3, h4, rfl⟩ hr
          exact ⟨Bp, Bq, h1, h2, (World.putObj_heap_other (by omega)).trans h3, (World.putObj_heap_other (by omega)).trans h4, rfl⟩
        case assign =>
          rintro l' pre x V K ⟨g1, g2⟩ hpre hz hK
          dsimp only [ptV2]
          gi_wp2
          refine hK _ _ (((Below.refl _ _).alloc (Nat.le_refl _) _).alloc (by simp) _) ⟨V.heap.size, V.heap.size + 1, hz, by omega, blk_alloc (blk_new _ _) _, ?_, rfl⟩
          have := blk_new (V.alloc (.cells #[.int .i64 x.1.f0, .int .i64 x.1.f1] 23 (0, 0))) (.cells #[.int .i64 x.2.f0, .int .i64 x.2.f1] 23 (0, 0))
          rwa [World.size_alloc] at this
        case body =>
          rintro l' pre ⟨p, q⟩ a' V ⟨g1, g2⟩ hpre hz ⟨Bp, Bq, hBp, hBq, hp, hq, rfl⟩
          dsimp only at hp hq ⊢
          obtain ⟨x, hx⟩ : ∃ d, wrap64 (q.f0 - p.f0) = d := ⟨_, rfl⟩
          obtain ⟨y, hy⟩ : ∃ d, wrap64 (q.f1 - p.f1) = d := ⟨_, rfl⟩
          obtain ⟨nx, hnx⟩ : ∃ d, wrap64 (-x) = d := ⟨_, rfl⟩
          obtain ⟨ny, hny⟩ : ∃ d, wrap64 (-y) = d := ⟨_, rfl⟩
          have HD4 : Aside0 (dir4 (p, q) = [⟨y, nx, 0⟩, ⟨ny, x, 0⟩, ⟨x, y, 0⟩, ⟨nx, ny, 0⟩]) := ⟨by unfold dir4; simp only [hx, hy, hnx, hny]⟩
          have w1 : IntKind.i64.wrap (q.f0 - p.f0) = x := by rw [i64_w]; exact hx
          have w2 : IntKind.i64.wrap (q.f1 - p.f1) = y := by rw [i64_w]; exact hy
          have w3 : IntKind.i64.wrap (-x) = nx := by rw [i64_w]; exact hnx
          have w4 : IntKind.i64.wrap (-y) = ny := by rw [i64_w]; exact hny
          have p0 : V.cell? ⟨Bp, 0, none⟩ = some (.int .i64 p.f0) := (blk_cell hp 0).trans rfl
          have p1 : V.cell? ⟨Bp, 1, none⟩ = some (.int .i64 p.f1) := (blk_cell hp 1).trans rfl
          have y0 : V.cell? ⟨Bq, 0, none⟩ = some (.int .i64 q.f0) := (blk_cell hq 0).trans rfl
          have y1 : V.cell? ⟨Bq, 1, none⟩ = some (.int .i64 q.f1) := (blk_cell hq 1).trans rfl
          have KP := Aside0.mk (blk_lt hp)
          have KQ := Aside0.mk (blk_lt hq)
          have G1 := Aside0.mk g1
          have G2 := Aside0.mk g2
          have HPR := Aside0.mk hpre
          clear hp hq g1 g2 hpre hx hy hidx
          gi_wp2
          refine wpIn_region_any (by kernel_rfl) ?_
          change wpAnyIn _ _ _ _ _ _ _ _ _ (World.drew V)
          refine wpAnyIn_inv (fun listed a V' => a = { tmps := (.slice (some aa) na ca :: .slice (some ab) nb cb :: .pointer (some ⟨B, 0, none⟩) :: .pointer (some ⟨B + 1, 0, none⟩) :: .pointer (some ⟨B + 1 + 1, 0, none⟩) :: .pointer (some ⟨B + 1 + 1 + 1, 0, none⟩) :: .pointer (some ⟨g6, 0, none⟩) :: .bool false :: undef :: .slice (some ah) nh chh :: .pointer (some ⟨Bp, 0, none⟩) :: .pointer (some ⟨Bq, 0, none⟩) :: selOr listed 10 (.int .i64 x) undef :: selOr listed 11 (.int .i64 y) undef :: undef :: undef :: .tuple #[.agg #[.int .i64 0, .int .i64 0, .int .i64 0], .bool false] :: .slice (some aa) na ca :: .slice (some ab) nb cb :: .slice (some ab) nb cb :: .pointer (some ab) :: .pointer (some ab) :: .int .i64 b0.f0 :: .slice (some aa) na ca :: .pointer (some aa) :: .pointer (some aa) :: .int .i64 a0.f0 :: .int .i64 dx :: .slice (some ab) nb cb :: .pointer (some ab) :: .pointer (some ⟨ab.block, ab.off + 1, none⟩) :: .int .i64 b0.f1 :: .slice (some aa) na ca :: .pointer (some aa) :: .pointer (some ⟨aa.block, aa.off + 1, none⟩) :: .int .i64 a0.f1 :: .int .i64 dy :: .agg #[.int .i64 dx, .int .i64 dy, .int .i64 0] :: .slice (some ⟨gs, 0, none⟩) 1 1 :: .tuple #[.agg #[.int .i64 0, .int .i64 0, .int .i64 0], .bool false] :: .agg #[.int .i64 0, .int .i64 0, .int .i64 0] :: .bool false :: .bool false :: undef :: .slice (some aa) na ca :: .slice (some ab) nb cb :: .agg #[.slice (some aa) na ca, .slice (some ab) nb cb] :: .int .i64 (k : Int) :: .bool true :: .slice (some ah) nh chh :: .slice (some ah) nh chh :: .func (.func 120) #[] #[.pointer (some ⟨W.heap.size, 0, none⟩)] :: .agg #[.int .i64 p.f0, .int .i64 p.f1] :: .agg #[.int .i64 q.f0, .int .i64 q.f1] :: selOr listed 0 (.pointer (some ⟨Bq, 0, none⟩)) undef :: selOr listed 1 (.int .i64 q.f0) undef :: selOr listed 2 (.pointer (some ⟨Bp, 0, none⟩)) undef :: selOr listed 3 (.int .i64 p.f0) undef :: selOr listed 4 (.int .i64 x) undef :: selOr listed 5 (.pointer (some ⟨Bq, 1, none⟩)) undef :: selOr listed 6 (.int .i64 q.f1) undef :: selOr listed 7 (.pointer (some ⟨Bp, 1, none⟩)) undef :: selOr listed 8 (.int .i64 p.f1) undef :: selOr listed 9 (.int .i64 y) undef :: undef :: undef :: undef :: undef :: undef :: undef :: undef :: undef :: undef :: undef :: undef :: undef :: undef :: undef :: undef :: undef :: undef :: undef :: undef :: undef :: undef :: undef :: undef :: undef :: undef :: u89 :: undef :: []).toArray, defers := [] } ∧ Below V.heap.size V V') 19 ?stepq ?stopq ?finq 12 _ _ _ (by simp) (closed_none _) ⟨by simp [selOr], (Below.refl _ _).drew⟩ (by simp)
          case stopq =>
            intro listed a V' fuel hs hc hi hr
            have := (ready_lt hr).1
            simp at hs
            omega
          case stepq =>
            rintro listed a V' i hs hc ⟨rfl, q1⟩ hr hne K hK
            obtain ⟨hlt', hl0⟩ := ready_lt hr
            have cp0 := (q1.cell (p := ⟨Bp, 0, none⟩) KP.out).trans p0
            have cp1 := (q1.cell (p := ⟨Bp, 1, none⟩) KP.out).trans p1
            have cy0 := (q1.cell (p := ⟨Bq, 0, none⟩) KQ.out).trans y0
            have cy1 := (q1.cell (p := ⟨Bq, 1, none⟩) KQ.out).trans y1
            clear p0 p1 y0 y1
            have hi : i = 0 ∨ i = 1 ∨ i = 2 ∨ i = 3 ∨ i = 4 ∨ i = 5 ∨ i = 6 ∨ i = 7 ∨ i = 8 ∨ i = 9 ∨ i = 10 ∨ i = 11 := by simp at hs; omega
            rcases hi with rfl | rfl | rfl | rfl | rfl | rfl | rfl | rfl | rfl | rfl | rfl | rfl
            · skip
              refine wpOpIn_of rfl rfl ?_
              clear hr hl0
              gi_wp2
              refine ⟨?_, q1⟩
              simp (disch := decide) only [selOr_same hlt', selOr_other hlt']
            · have d0 : listed.getD 0 false = true := ready_after hr rfl { on := 0, ground := .data } (by simp) rfl
              simp only [selOr_on d0]
              refine wpOpIn_of rfl rfl ?_
              clear hr hl0
              gi_wp2
              refine ⟨?_, q1⟩
              simp (disch := decide) only [selOr_same hlt', selOr_other hlt', selOr_on d0]
            · skip
              refine wpOpIn_of rfl rfl ?_
              clear hr hl0
              gi_wp2
              refine ⟨?_, q1⟩
              simp (disch := decide) only [selOr_same hlt', selOr_other hlt']
            · have d2 : listed.getD 2 false = true := ready_after hr rfl { on := 2, ground := .data } (by simp) rfl
              simp only [selOr_on d2]
              refine wpOpIn_of rfl rfl ?_
              clear hr hl0
              gi_wp2
              refine ⟨?_, q1⟩
              simp (disch := decide) only [selOr_same hlt', selOr_other hlt', selOr_on d2]
            · have d1 : listed.getD 1 false = true := ready_after hr rfl { on := 1, ground := .data } (by simp) rfl
              have d3 : listed.getD 3 false = true := ready_after hr rfl { on := 3, ground := .data } (by simp) rfl
              simp only [selOr_on d1, selOr_on d3]
              refine wpOpIn_of rfl rfl ?_
              clear hr hl0
              gi_wp2
              refine ⟨?_, q1⟩
              simp (disch := decide) only [selOr_same hlt', selOr_other hlt', selOr_on d1, selOr_on d3]
            · skip
              refine wpOpIn_of rfl rfl ?_
              clear hr hl0
              gi_wp2
              refine ⟨?_, q1⟩
              simp (disch := decide) only [selOr_same hlt', selOr_other hlt']
            · have d5 : listed.getD 5 false = true := ready_after hr rfl { on := 5, ground := .data } (by simp) rfl
              simp only [selOr_on d5]
              refine wpOpIn_of rfl rfl ?_
              clear hr hl0
              gi_wp2
              refine ⟨?_, q1⟩
              simp (disch := decide) only [selOr_same hlt', selOr_other hlt', selOr_on d5]
            · skip
              refine wpOpIn_of rfl rfl ?_
              clear hr hl0
              gi_wp2
              refine ⟨?_, q1⟩
              simp (disch := decide) only [selOr_same hlt', selOr_other hlt']
            · have d7 : listed.getD 7 false = true := ready_after hr rfl { on := 7, ground := .data } (by simp) rfl
              simp only [selOr_on d7]
              refine wpOpIn_of rfl rfl ?_
              clear hr hl0
              gi_wp2
              refine ⟨?_, q1⟩
              simp (disch := decide) only [selOr_same hlt', selOr_other hlt', selOr_on d7]
            · have d6 : listed.getD 6 false = true := ready_after hr rfl { on := 6, ground := .data } (by simp) rfl
              have d8 : listed.getD 8 false = true := ready_after hr rfl { on := 8, ground := .data } (by simp) rfl
              simp only [selOr_on d6, selOr_on d8]
              refine wpOpIn_of rfl rfl ?_
              clear hr hl0
              gi_wp2
              refine ⟨?_, q1⟩
              simp (disch := decide) only [selOr_same hlt', selOr_other hlt', selOr_on d6, selOr_on d8]
            · have d4 : listed.getD 4 false = true := ready_after hr rfl { on := 4, ground := .data } (by simp) rfl
              simp only [selOr_on d4]
              refine wpOpIn_of rfl rfl ?_
              clear hr hl0
              gi_wp2
              refine ⟨?_, q1⟩
              simp (disch := decide) only [selOr_same hlt', selOr_other hlt', selOr_on d4]
            · have d9 : listed.getD 9 false = true := ready_after hr rfl { on := 9, ground := .data } (by simp) rfl
              simp only [selOr_on d9]
              refine wpOpIn_of rfl rfl ?_
              clear hr hl0
              gi_wp2
              refine ⟨?_, q1⟩
              simp (disch := decide) only [selOr_same hlt', selOr_other hlt', selOr_on d9]
          case finq =>
            rintro listed a V' hs ⟨rfl, q1⟩ hr
            have all : ∀ j, j < 12 → listed.getD j false = true := fun j hj => by
              cases q : listed.getD j false
              · exact absurd hr (ready_ne hs (by kernel_rfl) j (by simpa using hj) q)
              · rfl
            simp only [selOr_on (all 0 (by decide)), selOr_on (all 1 (by decide)), selOr_on (all 2 (by decide)), selOr_on (all 3 (by decide)), selOr_on (all 4 (by decide)), selOr_on (all 5 (by decide)), selOr_on (all 6 (by decide)), selOr_on (all 7 (by decide)), selOr_on (all 8 (by decide)), selOr_on (all 9 (by decide)), selOr_on (all 10 (by decide)), selOr_on (all 11 (by decide))]
            clear hr hs
            have J2 := G1.out.step q1 G1.out.size.2
            have ca0 : V'.cell? ⟨B, 0, none⟩ = some (.slice (some aa) na ca) := (blk_cell J2.ha 0).trans rfl
            have cb0 : V'.cell? ⟨B + 1, 0, none⟩ = some (.slice (some ab) nb cb) := (blk_cell J2.hb 0).trans rfl
            obtain ⟨o, ho⟩ : ∃ o, tryO l0 l1 [⟨y, nx, 0⟩, ⟨ny, x, 0⟩, ⟨x, y, 0⟩, ⟨nx, ny, 0⟩] = o := ⟨_, rfl⟩
            have hpre2 : tryO l0 l1 ((pre ++ [(p, q)]).flatMap dir4) = o := by
              rw [List.flatMap_append, tryO_append, G2.out, List.flatMap_singleton, HD4.out, ho]; rfl
            have hba : Below V'.heap.size V' (V'.alloc (.cells #[.int .i64 y, .int .i64 nx, .int .i64 0, .int .i64 ny, .int .i64 x, .int .i64 0, .int .i64 x, .int .i64 y, .int .i64 0, .int .i64 nx, .int .i64 ny, .int .i64 0] 75 (0, 0))) := (Below.refl _ _).alloc (Nat.le_refl _) _
            have hbw : Below w.heap.size w (V'.alloc (.cells #[.int .i64 y, .int .i64 nx, .int .i64 0, .int .i64 ny, .int .i64 x, .int .i64 0, .int .i64 x, .int .i64 y, .int .i64 0, .int .i64 nx, .int .i64 ny, .int .i64 0] 75 (0, 0))) := (HBe.out ▸ J2.below : Below w.heap.size w V').trans (hba.mono (by have := J2.below.size; omega))
            have J3 := J2.step hba J2.size.2
            have hVb : Below V.heap.size V (V'.alloc (.cells #[.int .i64 y, .int .i64 nx, .int .i64 0, .int .i64 ny, .int .i64 x, .int .i64 0, .int .i64 x, .int .i64 y, .int .i64 0, .int .i64 nx, .int .i64 ny, .int .i64 0] 75 (0, 0))) := q1.trans (hba.mono q1.size)
            have HCALL := Aside0.mk (HTR.out [⟨y, nx, 0⟩, ⟨ny, x, 0⟩, ⟨x, y, 0⟩, ⟨nx, ny, 0⟩] V'.heap.size 4 (V'.alloc (.cells #[.int .i64 y, .int .i64 nx, .int .i64 0, .int .i64 ny, .int .i64 x, .int .i64 0, .int .i64 x, .int .i64 y, .int .i64 0, .int .i64 nx, .int .i64 ny, .int .i64 0] 75 (0, 0))) (lineR o).1 (lineR o).2.1 (lineR o).2.2.1 (lineR o).2.2.2 hbw (by simp) rfl (line4_C ⟨y, nx, 0⟩ ⟨ny, x, 0⟩ ⟨x, y, 0⟩ ⟨nx, ny, 0⟩ (blk_new _ _)) (by rw [ho]))
            have HP2 := Aside0.mk hpre2
            have HJ3 := Aside0.mk J3
            have HVB := Aside0.mk hVb
            clear ho hpre2 hba hbw J2 J3 hVb all q1 w1 w2
            cases o with
            | some z =>
              have hful : tryO l0 l1 (dirs h) = some z := by
                obtain ⟨tl, htl⟩ := HPR.out
                unfold dirs
                rw [← htl, List.flatMap_append, tryO_append, HP2.out]; rfl
              have HFU := Aside0.mk hful
              clear hful
              gi_wp2
              refine ⟨trivial, rfl, (CallsIn.inRound l' HCALL.out).mono ?_⟩
              rintro e V5 ⟨rfl, hb5⟩
              dsimp only [lineR]
              have hb6 : Below V5.heap.size V5 (V5.alloc (.cells #[.int .i64 z.f0, .int .i64 z.f1, .int .i64 z.f2] 75 (0, 0))) := (Below.refl _ _).alloc (Nat.le_refl _) _
              obtain ⟨V6, hV6⟩ : ∃ V6, V5.alloc (.cells #[.int .i64 z.f0, .int .i64 z.f1, .int .i64 z.f2] 75 (0, 0)) = V6 := ⟨_, rfl⟩
              have kz : V6.heap[V5.heap.size]? = some (.cells (lineC z) 75 (0, 0)) := by rw [← hV6]; exact blk_new _ _
              rw [hV6] at hb6
              have J6 := (HJ3.out.step hb5 HJ3.out.size.2).step hb6 (Nat.le_trans HJ3.out.size.2 hb5.size)
              have HVB6 := Aside0.mk ((HVB.out.trans (hb5.mono HVB.out.size)).trans (hb6.mono (Nat.le_trans HVB.out.size hb5.size)))
              obtain ⟨⟨z0, z1, z2⟩, _⟩ := line_cells kz
              obtain ⟨⟨o0, o1, o2⟩, f0, f1, f2⟩ := line_cells J6.hl
              have fb := blk_frozen J6.hf 0
              have cb : V6.cell? ⟨B + 1 + 1 + 1, 0, none⟩ = some (.bool false) := (blk_cell J6.hf 0).trans rfl
              have HPS := Aside0.mk (part_store z.f0 z.f1 z.f2 true J6)
              have HJ6 := Aside0.mk J6
              clear ca0 cb0 kz hb6 hb5 J6 HCALL
              gi_wp2
              dsimp only [postS]
              refine ⟨(Recs.below HVB6.out hz).trans (HPS.out.2 _ (by have := HI3.out.size; omega)), z, HFU.out, HPS.out.1⟩
            | none =>
              gi_wp2
              refine ⟨trivial, rfl, (CallsIn.inRound l' HCALL.out).mono ?_⟩
              rintro e V5 ⟨rfl, hb5⟩
              dsimp only [lineR]
              have hb6 : Below V5.heap.size V5 (V5.alloc (.cells #[.int .i64 0, .int .i64 0, .int .i64 0] 75 (0, 0))) := (Below.refl _ _).alloc (Nat.le_refl _) _
              have HJ6 := Aside0.mk ((HJ3.out.step hb5 HJ3.out.size.2).step hb6 (Nat.le_trans HJ3.out.size.2 hb5.size))
              have HVB6 := Aside0.mk ((HVB.out.trans (hb5.mono HVB.out.size)).trans (hb6.mono (Nat.le_trans HVB.out.size hb5.size)))
              clear ca0 cb0 hb6 hb5 HCALL
              gi_wp2
              dsimp only [postS]
              exact ⟨HVB6.out.mono (by omega), Recs.below HVB6.out hz, HJ6.out, HP2.out⟩
        case stop =>
          rintro D pre V hD hpre ⟨x, g1, hE⟩ hK
          have hbv : tryO l0 l1 (partL l0 l1) = some x := by
            rw [HPL.out, show (⟨dx, dy, 0⟩ : S75) :: (dirs l0 ++ dirs l1) = [⟨dx, dy, 0⟩] ++ (dirs l0 ++ dirs l1) from rfl, tryO_append, HO.out, tryO_append]
            rcases HCS.out with ⟨_, rfl, _⟩ | ⟨hk1, rfl, _⟩
            · rw [g1]; rfl
            · rw [HN.out.1 (by omega), g1]; rfl
          have HRES : Aside0 (lineR (tryO l0 l1 (partL l0 l1)) = (x.f0, x.f1, x.f2, true)) := ⟨by rw [hbv]; rfl⟩
          have HEA := Aside0.mk hE
          have HDK := Aside0.mk hK
          clear hE hbv g1 hK hidx
          gi_wp2
          have hEs := HEA.out.size
          have hs2 := HS2.out
          refine leaves_coll (B := B + 4) _ (D + 1) _ (HEA.out.coll.push (by omega) hD HDK.out) fun W' hW' => ?_
          refine ⟨_, results_lb rfl _ _ (B + 1 + 1) (lineC x) (B + 1 + 1 + 1) (.bool true) rfl rfl ((hW'.block _ (by omega)).trans HEA.out.hl) ((blk_cell ((hW'.block _ (by omega)).trans HEA.out.hf) 0).trans rfl) rfl, ?_⟩
          exact ⟨by rw [HRES.out]; rfl, HBe.out ▸ HEA.out.below.trans (hW'.mono (by omega))⟩
        case done =>
          rintro D V hD ⟨g1, g2⟩ hK
          have hDV : D < V.heap.size := (Array.getElem?_eq_some_iff.1 hK).1
          have J0 : PInv B w (.slice (some aa) na ca) (.slice (some ab) nb cb) (D + 1) ({ target := .collected D, args := #[] } :: ds) V := ⟨g1.below, ⟨by have := g1.size; omega, by omega⟩, g1.ha, g1.hb, g1.hl, g1.hf, g1.coll.push (by have := g1.size; omega) hD hK⟩
          have HJ0 := Aside0.mk J0.up
          have G2 := Aside0.mk g2
          have hk1 : wrap64 ((k : Int) + 1) = ((k + 1 : Nat) : Int) := by unfold wrap64; omega
          clear hK g1 g2 hDV J0 hidx
          gi_wp2
          first | rw [hk1] | skip
          clear hk1
          refine ⟨⟨k + 1, { target := .collected D, args := #[] } :: ds, _, _, _, _, _, _, rfl, by omega, ⟨fun _ => ?_, fun _ => ?_⟩, HJ0.out⟩, by simp [intOf]; omega⟩
          · rcases HCS.out with ⟨_, e, _⟩ | ⟨hk1, _, _⟩
            · have := G2.out; rw [e] at this; exact this
            · exact HN.out.1 (by omega)
          · rcases HCS.out with ⟨hk1, _, _⟩ | ⟨_, e, _⟩
            · omega
            · have := G2.out; rw [e] at this; exact this
      · have hbv : tryO l0 l1 (partL l0 l1) = none := by
          rw [HPL.out, show (⟨dx, dy, 0⟩ : S75) :: (dirs l0 ++ dirs l1) = [⟨dx, dy, 0⟩] ++ (dirs l0 ++ dirs l1) from rfl, tryO_append, HO.out, tryO_append, hnone.1 (by omega), hnone.2 (by omega)]; rfl
        have HRES : Aside0 (lineR (tryO l0 l1 (partL l0 l1)) = (0, 0, 0, false)) := ⟨by rw [hbv]; rfl⟩
        obtain ⟨⟨o0, o1, o2⟩, f0, f1, f2⟩ := line_cells I.hl
        have fb := blk_frozen I.hf 0
        have cb : W.cell? ⟨B + 1 + 1 + 1, 0, none⟩ = some (.bool false) := (blk_cell I.hf 0).trans rfl
        have HPS := Aside0.mk (part_store 0 0 0 false I)
        clear I hbv
        gi_wp2
        have HE := HPS.out.1
        have hEs := HE.size
        refine leaves_coll (B := B + 4) _ W.heap.size _ HE.coll fun W' hW' => ?_
        refine ⟨_, results_lb rfl _ _ (B + 1 + 1) (lineC ⟨0, 0, 0⟩) (B + 1 + 1 + 1) (.bool false) rfl rfl ((hW'.block _ (by omega)).trans HE.hl) ((blk_cell ((hW'.block _ (by omega)).trans HE.hf) 0).trans rfl) rfl, ?_⟩
        exact ⟨by rw [HRES.out]; rfl, HBe.out ▸ HE.below.trans (hW'.mono (by omega))⟩
theorem some_addr {l : List S23} {A : Option Addr} {w : World} (h : 0 < l.length) (hr : Kd.C k23 w A l.length l) : ∃ ad, A = some ad := by
  obtain ⟨ad, _, e, _⟩ := Kd.C_get hr z23 0 (by omega) (by omega)
  exact ⟨ad, e⟩
theorem plane_part.calls (A0 : Option Addr) (c0 : Nat) (l0 : List (S23)) (A1 : Option Addr) (c1 : Nat) (l1 : List (S23)) (r1 : Int) (r2 : Int) (r3 : Int) (r4 : Bool) (w : World) (hr0 : Kd.C k23 w A0 l0.length l0) (hc0 : l0.length ≤ c0) (hr1 : Kd.C k23 w A1 l1.length l1) (hc1 : l1.length ≤ c1) (h : plane_part.f l0 l1 = some (r1, r2, r3, r4)) :
    Calls Try.prog 106 #[.slice A0 l0.length c0, .slice A1 l1.length c1] w fun e w' => e = .returned (.tuple #[.agg #[.int .i64 r1, .int .i64 r2, .int .i64 r3], .bool r4]) ∧ Below w.heap.size w w' := by
  unfold plane_part.f at h
  split at h
  case isFalse => cases h
  rename_i hg
  obtain ⟨aa, rfl⟩ := some_addr hg.1 hr0
  obtain ⟨ab, rfl⟩ := some_addr hg.2 hr1
  have hc := (callsIn_wide (n := 0)).1 (part_in aa ab c0 c1 l0 l1 w hg.1 hg.2 hr0 hc0 hr1 hc1)
  have he := Option.some.inj h
  rw [he] at hc
  exact hc
end Go.Proofs.Ytegdcnjjelgpjaa.P
namespace Go.Proofs.Ytegdcnjjelgpjaa.P
open Go.RowKit Go.Proofs.YtegdcnjjelgpjaaW.PrintWords Go.Proofs.YtegdcnjjelgpjaaW.PrintLast Go.Proofs.YtegdcnjjelgpjaaW.PrintMore
attribute [local go_sem] max2_int min2_int max_two min_two max_three min_three max_four min_four   -- for this text's walks alone
set_option linter.unusedVariables false
set_option linter.unusedSimpArgs false
def plane_apart.f (l0 : List (S23)) (l1 : List (S23)) : Option (Bool) := (plane_part.f l0 l1).bind fun bt101 => (some bt101.2.2.2)
set_option maxHeartbeats 8000000 in
set_option maxRecDepth 100000 in
theorem plane_apart.calls (A0 : Option Addr) (c0 : Nat) (l0 : List (S23)) (A1 : Option Addr) (c1 : Nat) (l1 : List (S23)) (r : Bool) (w : World) (hr0 : Kd.C k23 w A0 l0.length l0) (hc0 : l0.length ≤ c0) (hr1 : Kd.C k23 w A1 l1.length l1) (hc1 : l1.length ≤ c1) (h : plane_apart.f l0 l1 = some r) :
    Calls Try.prog 95 #[.slice A0 l0.length c0, .slice A1 l1.length c1] w fun e w' => e = .returned (.bool r) ∧ Below w.heap.size w w' := by
  have hu75 := Try.underlying75
  have HR0 := Aside0.mk hr0
  have HC0 := Aside0.mk hc0
  clear hr0 hc0
  have HR1 := Aside0.mk hr1
  have HC1 := Aside0.mk hc1
  clear hr1 hc1
  have HB := Aside0.mk (Below.refl w.heap.size w)
  have H : ((plane_part.f l0 l1).bind fun bt101 => (some bt101.2.2.2)) = some r := h
  clear h
  replace H := Option.bind_eq_some_iff.mp H
  obtain ⟨⟨t101, t102, t103, t104⟩, A30, H⟩ := H
  replace H : (some t104) = some r := H
  have A3 := Aside0.mk A30
  clear A30
  obtain rfl := Option.some.inj H
  go_enter Try.func95, Try.ntmps95
  go_wp2_with (first | ((with_reducible refine gate_callee (f := 106) rfl ?_); refine goesL_ (some 10) rfl rfl Try.func106 (by kernel_rfl) rfl #[.slice A0 l0.length c0, .slice A1 l1.length c1] rfl (by (try simp only [List.map_toArray, List.map_cons, List.map_nil]); first | done | rfl | (simp only [List.length_drop, List.length_take]; rfl)) ?_; (with_reducible refine (plane_part.calls _ _ l0 _ _ l1 t101 t102 t103 t104 _ ?side1 ?side2 ?side3 ?side4 A3.out).mono ?_); (case side1 => repeat (first | exact HR0.out | (with_reducible refine Kd.C_alloc ?_ _) | (with_reducible refine Kd.C_drewN ?_ _) | (with_reducible refine Kd.C_drew ?_))); (case side2 => exact HC0.out); (case side3 => repeat (first | exact HR1.out | (with_reducible refine Kd.C_alloc ?_ _) | (with_reducible refine Kd.C_drewN ?_ _) | (with_reducible refine Kd.C_drew ?_))); (case side4 => exact HC1.out); rintro e w4 ⟨rfl, hb⟩; refine ⟨_, rfl, ?_⟩; have n0_ := Aside0.mk (below_step (by repeat (first | (with_reducible first | exact HB.out | apply below_alloc | apply pw_below_drewN | apply below_drew1) | exact HB.out)) hb); clear HB; have HB := n0_; clear n0_; (try clear hb); (try clear hb2); (try clear hk); (try clear hi)) | ((with_reducible refine gate_dst (N := 5) rfl ?_); refine box_event ?hg (N := 5) ?hd (cs := #[.int .i64 0, .int .i64 0, .int .i64 0]) (t := 75) ?hr ?_; (case hd => rfl); (case hg => rfl); (case hr => first | (go_simp; done) | (go_simp; rfl)); intro gb105 hg w5 hbox hb; have n0_ := Aside0.mk (below_step (by repeat (first | (with_reducible first | exact HB.out | apply below_alloc | apply pw_below_drewN | apply below_drew1) | exact HB.out)) hb); have n1_ := Aside0.mk (hbox); have n2_ := Aside0.mk ((by rw [hg]; exact (below_size (by repeat (first | (with_reducible first | exact HB.out | apply below_alloc | apply pw_below_drewN | apply below_drew1) | exact HB.out))) : w.heap.size ≤ gb105)); have n3_ := Aside0.mk ((by rw [hg]; exact (below_size (by repeat (first | (with_reducible first | exact HB.out | apply below_alloc | apply pw_below_drewN | apply below_drew1) | exact HB.out))) : w.heap.size ≤ gb105)); clear HB; have HB := n0_; have BK105 := n1_; have GW105 := n2_; have GE105 := n3_; clear n0_ n1_ n2_ n3_; clear hb hbox hg; have hcz6_0 : w5.cell? ⟨gb105, 0, none⟩ = some (.int .i64 0) := (blk_cell BK105.out 0).trans rfl; have hcz6_1 : w5.cell? ⟨gb105, 1, none⟩ = some (.int .i64 0) := (blk_cell BK105.out 1).trans rfl; have hcz6_2 : w5.cell? ⟨gb105, 2, none⟩ = some (.int .i64 0) := (blk_cell BK105.out 2).trans rfl; have hfz6_0 := blk_frozen BK105.out 0; have hfz6_1 := blk_frozen BK105.out 1; have hfz6_2 := blk_frozen BK105.out 2))
  go_ret
  exact ⟨by first | rfl | (simp [errW_none, errW_some] <;> rfl) | (simp [*, errW_none, errW_some] <;> rfl), by repeat (first | (with_reducible first | exact HB.out | apply below_alloc | apply pw_below_drewN | apply below_drew1 | refine below_set ?_ GE105.out) | exact HB.out)⟩
end Go.Proofs.Ytegdcnjjelgpjaa.P
namespace Go.Proofs.Ytegdcnjjelgpjaa.P
open Go.RowKit Go.Proofs.YtegdcnjjelgpjaaW.PrintWords Go.Proofs.YtegdcnjjelgpjaaW.PrintLast Go.Proofs.YtegdcnjjelgpjaaW.PrintMore
attribute [local go_sem] max2_int min2_int max_two min_two max_three min_three max_four min_four   -- for this text's walks alone
set_option linter.unusedVariables false
set_option linter.unusedSimpArgs false
def plane_Meet.f (l0 : List (S23)) (l1 : List (S23)) : Option (Bool × Int) := (plane_checkHulls.f (([l0, l1] : List (List (S23))))).bind fun t104 => (if t104 = 0 then ((plane_apart.f l0 l1).bind fun t105 => (some (!t105, 0))) else (some (false, t104)))
set_option maxHeartbeats 8000000 in
set_option maxRecDepth 100000 in
theorem plane_Meet.calls (P0_ : Nat → Prop) (A0 : Option Addr) (c0 : Nat) (l0 : List (S23)) (P1_ : Nat → Prop) (A1 : Option Addr) (c1 : Nat) (l1 : List (S23)) (r1 : Bool) (r2 : Int) (w : World) (hs0 : Kd.V k23 23 w w.heap.size (fun k_ => P0_ k_) (.slice A0 l0.length c0) l0) (hs1 : Kd.V k23 23 w w.heap.size (fun k_ => P1_ k_) (.slice A1 l1.length c1) l1) (h : plane_Meet.f l0 l1 = some (r1, r2)) :
    Calls Try.prog 58 #[.slice A0 l0.length c0, .slice A1 l1.length c1] w fun e w' => e = .returned (.tuple #[.bool r1, .int .i64 r2]) ∧ Below w.heap.size w w' := by
  have HO0 := Aside0.mk (show Kd.V k23 23 w w.heap.size (fun k_ => ((P0_ k_ ∨ P1_ k_) ∨ w.heap.size ≤ k_)) (.slice A0 l0.length c0) l0 from Kd.V_mono hs0 (fun k_ hk => .inl (.inl hk)))
  have HO1 := Aside0.mk (show Kd.V k23 23 w w.heap.size (fun k_ => ((P0_ k_ ∨ P1_ k_) ∨ w.heap.size ≤ k_)) (.slice A1 l1.length c1) l1 from Kd.V_mono hs1 (fun k_ hk => .inl (.inr hk)))
  have HB := Aside0.mk (Below.refl w.heap.size w)
  have H : ((plane_checkHulls.f (([l0, l1] : List (List (S23))))).bind fun t104 => (if t104 = 0 then ((plane_apart.f l0 l1).bind fun t105 => (some (!t105, 0))) else (some (false, t104)))) = some (r1, r2) := h
  clear h
  obtain ⟨y101, hy101⟩ : ∃ y_ : List (List (S23)), y_ = (([l0, l1] : List (List (S23)))) := ⟨_, rfl⟩
  replace H : ((plane_checkHulls.f y101).bind fun t104 => (if t104 = 0 then ((plane_apart.f l0 l1).bind fun t105 => (some (!t105, 0))) else (some (false, t104)))) = some (r1, r2) := by first | (rw [hy101]; with_reducible exact H) | (have H2_ := (Option.bind_some _ _).symm.trans H; rw [hy101]; with_reducible exact H2_) | (have H2_ := (Option.bind_some _ _).symm.trans H; with_reducible exact H2_) | with_reducible exact H | (rw [hy101]; exact H) | exact H
  have Ny101 := Aside0.mk hy101
  clear hy101
  replace H := Option.bind_eq_some_iff.mp H
  obtain ⟨t104, A30, H⟩ := H
  replace H : (if t104 = 0 then ((plane_apart.f l0 l1).bind fun t105 => (some (!t105, 0))) else (some (false, t104))) = some (r1, r2) := H
  have A3 := Aside0.mk A30
  clear A30
  by_cases c4 : t104 = 0
  · rw [if_pos c4] at H
    have c4b0 : (t104 == 0) = true := beq_iff_eq.mpr c4
    have c4b1 : (t104 != 0) = false := bne_eq_false_iff_eq.mpr c4
    clear c4
    replace H := Option.bind_eq_some_iff.mp H
    obtain ⟨t105, A50, H⟩ := H
    replace H : (some (!t105, 0)) = some (r1, r2) := H
    have A5 := Aside0.mk A50
    clear A50
    simp only [Option.some.injEq, Prod.mk.injEq] at H
    obtain ⟨rfl, rfl⟩ := H
    go_enter Try.func58, Try.ntmps58
    go_wp2_with (first | ((with_reducible refine gate_dst (N := 9) rfl ?_); refine Kd.N_lit (Kd.slice 23 k23) _ 53 ?hg (N' := 9) ?hd (xs := ([l0, l1] : List (List (S23)))) (inner := [.slice A0 l0.length c0, .slice A1 l1.length c1]) (ok := (fun k_ => ((P0_ k_ ∨ P1_ k_) ∨ w.heap.size ≤ k_))) (okp := (fun k_ => ((P0_ k_ ∨ P1_ k_) ∨ w.heap.size ≤ k_))) ?hr ?hp (fun _ hk => hk) ((show ∀ k_, w.heap.size ≤ k_ → (fun k_ => ((P0_ k_ ∨ P1_ k_) ∨ w.heap.size ≤ k_)) k_ from fun k_ hk => (.inr (Nat.le_trans (below_size (by repeat (first | (with_reducible first | exact HB.out | apply below_alloc | apply pw_below_drewN | apply below_drew1) | exact HB.out))) hk))) _ (Nat.le_refl _)) (Below.refl _ _) (Nat.le_refl _) (by simp) ?_; (case hd => rfl); (case hg => rfl); (case hr => first | (go_simp; done) | (go_simp; rfl)); (case hp => exact (Reps.one (show Kd.FK (Kd.slice 23 k23) _ _ l0 [.slice A0 l0.length c0] from (Kd.FK_slice_mk (Kd.V_reads' (Kd.V_mono (ok' := (fun k_ => ((P0_ k_ ∨ P1_ k_) ∨ w.heap.size ≤ k_))) (HO0.out) (fun k_ hk => hk))).2.1 (Kd.V_F (Kd.V_mono (ok' := (fun k_ => ((P0_ k_ ∨ P1_ k_) ∨ w.heap.size ≤ k_))) (HO0.out) (fun k_ hk => hk))))) (Reps.one (show Kd.FK (Kd.slice 23 k23) _ _ l1 [.slice A1 l1.length c1] from (Kd.FK_slice_mk (Kd.V_reads' (Kd.V_mono (ok' := (fun k_ => ((P0_ k_ ∨ P1_ k_) ∨ w.heap.size ≤ k_))) (HO1.out) (fun k_ hk => hk))).2.1 (Kd.V_F (Kd.V_mono (ok' := (fun k_ => ((P0_ k_ ∨ P1_ k_) ∨ w.heap.size ≤ k_))) (HO1.out) (fun k_ hk => hk))))) (Reps.none _ _)))); intro v102 w6 ho7 hb hg_ hnew_; clear hg_ hnew_; (first | rw [← Ny101.out] at ho7 | (simp only [Int.reduceToNat] at ho7; rw [← Ny101.out] at ho7)); have n0_ := Aside0.mk (Kd.V_elder' (by (with_reducible repeat (first | apply Kd.V_alloc | apply Kd.V_drewN | apply Kd.V_drew)); exact HO0.out) (Kd.N_base ho7) hb); have n1_ := Aside0.mk (Kd.V_elder' (by (with_reducible repeat (first | apply Kd.V_alloc | apply Kd.V_drewN | apply Kd.V_drew)); exact HO1.out) (Kd.N_base ho7) hb); have n2_ := Aside0.mk (Kd.N_lower ho7 (below_size (by repeat (first | (with_reducible first | exact HB.out | apply below_alloc | apply pw_below_drewN | apply below_drew1) | exact HB.out)))); have n3_ := Aside0.mk (below_step (by repeat (first | (with_reducible first | exact HB.out | apply below_alloc | apply pw_below_drewN | apply below_drew1) | exact HB.out)) hb); clear HO0; clear HO1; clear HB; have HO0 := n0_; have HO1 := n1_; have HO103 := n2_; have HB := n3_; clear n0_ n1_ n2_ n3_; clear hb ho7; obtain ⟨Ao8, co8, eo8⟩ := Kd.N_slice HO103.out; subst eo8) | ((with_reducible refine gate_callee (f := 94) rfl ?_); refine goesL_ (some 10) rfl rfl Try.func94 (by kernel_rfl) rfl #[.slice Ao8 y101.length co8] rfl (by (try simp only [List.map_toArray, List.map_cons, List.map_nil]); first | done | rfl | (simp only [List.length_drop, List.length_take]; rfl)) ?_; (with_reducible refine (plane_checkHulls.calls _ _ y101 t104 _ ?side1 ?side2 A3.out).mono ?_); (case side1 => repeat (first | exact (Kd.N_reads' HO103.out).2.2 | (with_reducible refine Kd.C_alloc ?_ _) | (with_reducible refine Kd.C_drewN ?_ _) | (with_reducible refine Kd.C_drew ?_))); (case side2 => exact (Kd.N_reads' HO103.out).2.1); rintro e w9 ⟨rfl, hb⟩; refine ⟨_, rfl, ?_⟩; have n0_ := Aside0.mk (Kd.V_below (by (with_reducible repeat (first | apply Kd.V_alloc | apply Kd.V_drewN | apply Kd.V_drew)); exact HO0.out) hb); have n1_ := Aside0.mk (Kd.V_below (by (with_reducible repeat (first | apply Kd.V_alloc | apply Kd.V_drewN | apply Kd.V_drew)); exact HO1.out) hb); have n2_ := Aside0.mk (Kd.N_below (by (with_reducible repeat (first | apply Kd.N_alloc | apply Kd.N_drewN | apply Kd.N_drew)); exact HO103.out) hb); have n3_ := Aside0.mk (below_step (by repeat (first | (with_reducible first | exact HB.out | apply below_alloc | apply pw_below_drewN | apply below_drew1) | exact HB.out)) hb); clear HO0; clear HO1; clear HO103; clear HB; have HO0 := n0_; have HO1 := n1_; have HO103 := n2_; have HB := n3_; clear n0_ n1_ n2_ n3_; (try clear hb); (try clear hb2); (try clear hk); (try clear hi)) | ((with_reducible refine gate_callee (f := 95) rfl ?_); refine goesL_ (some 16) rfl rfl Try.func95 (by kernel_rfl) rfl #[.slice A0 l0.length c0, .slice A1 l1.length c1] rfl (by (try simp only [List.map_toArray, List.map_cons, List.map_nil]); first | done | rfl | (simp only [List.length_drop, List.length_take]; rfl)) ?_; (with_reducible refine (plane_apart.calls _ _ l0 _ _ l1 t105 _ ?side1 ?side2 ?side3 ?side4 A5.out).mono ?_); (case side1 => repeat (first | exact (Kd.V_reads' HO0.out).2.2 | (with_reducible refine Kd.C_alloc ?_ _) | (with_reducible refine Kd.C_drewN ?_ _) | (with_reducible refine Kd.C_drew ?_))); (case side2 => exact (Kd.V_reads' HO0.out).2.1); (case side3 => repeat (first | exact (Kd.V_reads' HO1.out).2.2 | (with_reducible refine Kd.C_alloc ?_ _) | (with_reducible refine Kd.C_drewN ?_ _) | (with_reducible refine Kd.C_drew ?_))); (case side4 => exact (Kd.V_reads' HO1.out).2.1); rintro e w10 ⟨rfl, hb⟩; refine ⟨_, rfl, ?_⟩; have n0_ := Aside0.mk (Kd.V_below (by (with_reducible repeat (first | apply Kd.V_alloc | apply Kd.V_drewN | apply Kd.V_drew)); exact HO0.out) hb); have n1_ := Aside0.mk (Kd.V_below (by (with_reducible repeat (first | apply Kd.V_alloc | apply Kd.V_drewN | apply Kd.V_drew)); exact HO1.out) hb); have n2_ := Aside0.mk (Kd.N_below (by (with_reducible repeat (first | apply Kd.N_alloc | apply Kd.N_drewN | apply Kd.N_drew)); exact HO103.out) hb); have n3_ := Aside0.mk (below_step (by repeat (first | (with_reducible first | exact HB.out | apply below_alloc | apply pw_below_drewN | apply below_drew1) | exact HB.out)) hb); clear HO0; clear HO1; clear HO103; clear HB; have HO0 := n0_; have HO1 := n1_; have HO103 := n2_; have HB := n3_; clear n0_ n1_ n2_ n3_; (try clear hb); (try clear hb2); (try clear hk); (try clear hi)))
    go_ret2
    exact ⟨by first | rfl | (simp [errW_none, errW_some] <;> rfl) | (simp [*, errW_none, errW_some] <;> rfl), by repeat (first | (with_reducible first | exact HB.out | apply below_alloc | apply pw_below_drewN | apply below_drew1) | exact HB.out)⟩
  · rw [if_neg c4] at H
    have c4b0 : (t104 == 0) = false := beq_eq_false_iff_ne.mpr c4
    have c4b1 : (t104 != 0) = true := bne_iff_ne.mpr c4
    simp only [Option.some.injEq, Prod.mk.injEq] at H
    obtain ⟨rfl, rfl⟩ := H
    go_enter Try.func58, Try.ntmps58
    go_wp2_with (first | ((with_reducible refine gate_dst (N := 9) rfl ?_); refine Kd.N_lit (Kd.slice 23 k23) _ 53 ?hg (N' := 9) ?hd (xs := ([l0, l1] : List (List (S23)))) (inner := [.slice A0 l0.length c0, .slice A1 l1.length c1]) (ok := (fun k_ => ((P0_ k_ ∨ P1_ k_) ∨ w.heap.size ≤ k_))) (okp := (fun k_ => ((P0_ k_ ∨ P1_ k_) ∨ w.heap.size ≤ k_))) ?hr ?hp (fun _ hk => hk) ((show ∀ k_, w.heap.size ≤ k_ → (fun k_ => ((P0_ k_ ∨ P1_ k_) ∨ w.heap.size ≤ k_)) k_ from fun k_ hk => (.inr (Nat.le_trans (below_size (by repeat (first | (with_reducible first | exact HB.out | apply below_alloc | apply pw_below_drewN | apply below_drew1) | exact HB.out))) hk))) _ (Nat.le_refl _)) (Below.refl _ _) (Nat.le_refl _) (by simp) ?_; (case hd => rfl); (case hg => rfl); (case hr => first | (go_simp; done) | (go_simp; rfl)); (case hp => exact (Reps.one (show Kd.FK (Kd.slice 23 k23) _ _ l0 [.slice A0 l0.length c0] from (Kd.FK_slice_mk (Kd.V_reads' (Kd.V_mono (ok' := (fun k_ => ((P0_ k_ ∨ P1_ k_) ∨ w.heap.size ≤ k_))) (HO0.out) (fun k_ hk => hk))).2.1 (Kd.V_F (Kd.V_mono (ok' := (fun k_ => ((P0_ k_ ∨ P1_ k_) ∨ w.heap.size ≤ k_))) (HO0.out) (fun k_ hk => hk))))) (Reps.one (show Kd.FK (Kd.slice 23 k23) _ _ l1 [.slice A1 l1.length c1] from (Kd.FK_slice_mk (Kd.V_reads' (Kd.V_mono (ok' := (fun k_ => ((P0_ k_ ∨ P1_ k_) ∨ w.heap.size ≤ k_))) (HO1.out) (fun k_ hk => hk))).2.1 (Kd.V_F (Kd.V_mono (ok' := (fun k_ => ((P0_ k_ ∨ P1_ k_) ∨ w.heap.size ≤ k_))) (HO1.out) (fun k_ hk => hk))))) (Reps.none _ _)))); intro v102 w11 ho12 hb hg_ hnew_; clear hg_ hnew_; (first | rw [← Ny101.out] at ho12 | (simp only [Int.reduceToNat] at ho12; rw [← Ny101.out] at ho12)); have n0_ := Aside0.mk (Kd.V_elder' (by (with_reducible repeat (first | apply Kd.V_alloc | apply Kd.V_drewN | apply Kd.V_drew)); exact HO0.out) (Kd.N_base ho12) hb); have n1_ := Aside0.mk (Kd.V_elder' (by (with_reducible repeat (first | apply Kd.V_alloc | apply Kd.V_drewN | apply Kd.V_drew)); exact HO1.out) (Kd.N_base ho12) hb); have n2_ := Aside0.mk (Kd.N_lower ho12 (below_size (by repeat (first | (with_reducible first | exact HB.out | apply below_alloc | apply pw_below_drewN | apply below_drew1) | exact HB.out)))); have n3_ := Aside0.mk (below_step (by repeat (first | (with_reducible first | exact HB.out | apply below_alloc | apply pw_below_drewN | apply below_drew1) | exact HB.out)) hb); clear HO0; clear HO1; clear HB; have HO0 := n0_; have HO1 := n1_; have HO103 := n2_; have HB := n3_; clear n0_ n1_ n2_ n3_; clear hb ho12; obtain ⟨Ao13, co13, eo13⟩ := Kd.N_slice HO103.out; subst eo13) | ((with_reducible refine gate_callee (f := 94) rfl ?_); refine goesL_ (some 10) rfl rfl Try.func94 (by kernel_rfl) rfl #[.slice Ao13 y101.length co13] rfl (by (try simp only [List.map_toArray, List.map_cons, List.map_nil]); first | done | rfl | (simp only [List.length_drop, List.length_take]; rfl)) ?_; (with_reducible refine (plane_checkHulls.calls _ _ y101 t104 _ ?side1 ?side2 A3.out).mono ?_); (case side1 => repeat (first | exact (Kd.N_reads' HO103.out).2.2 | (with_reducible refine Kd.C_alloc ?_ _) | (with_reducible refine Kd.C_drewN ?_ _) | (with_reducible refine Kd.C_drew ?_))); (case side2 => exact (Kd.N_reads' HO103.out).2.1); rintro e w14 ⟨rfl, hb⟩; refine ⟨_, rfl, ?_⟩; have n0_ := Aside0.mk (Kd.V_below (by (with_reducible repeat (first | apply Kd.V_alloc | apply Kd.V_drewN | apply Kd.V_drew)); exact HO0.out) hb); have n1_ := Aside0.mk (Kd.V_below (by (with_reducible repeat (first | apply Kd.V_alloc | apply Kd.V_drewN | apply Kd.V_drew)); exact HO1.out) hb); have n2_ := Aside0.mk (Kd.N_below (by (with_reducible repeat (first | apply Kd.N_alloc | apply Kd.N_drewN | apply Kd.N_drew)); exact HO103.out) hb); have n3_ := Aside0.mk (below_step (by repeat (first | (with_reducible first | exact HB.out | apply below_alloc | apply pw_below_drewN | apply below_drew1) | exact HB.out)) hb); clear HO0; clear HO1; clear HO103; clear HB; have HO0 := n0_; have HO1 := n1_; have HO103 := n2_; have HB := n3_; clear n0_ n1_ n2_ n3_; (try clear hb); (try clear hb2); (try clear hk); (try clear hi)))
    go_ret2
    exact ⟨by first | rfl | (simp [errW_none, errW_some] <;> rfl) | (simp [*, errW_none, errW_some] <;> rfl), by repeat (first | (with_reducible first | exact HB.out | apply below_alloc | apply pw_below_drewN | apply below_drew1) | exact HB.out)⟩
end Go.Proofs.Ytegdcnjjelgpjaa.P
namespace Go.Proofs.Ytegdcnjjelgpjaa.P
open Go.RowKit Go.Proofs.YtegdcnjjelgpjaaW.PrintWords Go.Proofs.YtegdcnjjelgpjaaW.PrintLast Go.Proofs.YtegdcnjjelgpjaaW.PrintMore
attribute [local go_sem] max2_int min2_int max_two min_two max_three min_three max_four min_four   -- for this text's walks alone
set_option linter.unusedVariables false
set_option linter.unusedSimpArgs false
def plane_Gap.l0 : Nat → List (S23) → List (S23) → Int → Int → Option (Int × Int)
  | 0, _, _, _, _ => none
  | k + 1, x0, x1, x7, x8 => if x7 < x8 then ((plane_grown.f x0 (wrap64 (Int.tdiv (wrap64 (x7 + x8)) 2))).bind fun t105 => ((plane_apart.f t105 x1).bind fun t108 => (if t108 = true then (plane_Gap.l0 k x0 x1 (wrap64 ((wrap64 (Int.tdiv (wrap64 (x7 + x8)) 2)) + 1)) x8) else (plane_Gap.l0 k x0 x1 x7 (wrap64 (Int.tdiv (wrap64 (x7 + x8)) 2)))))) else (some (x7, 0))
def plane_Gap.f (k : Nat) (l0 : List (S23)) (l1 : List (S23)) : Option (Int × Int) := (plane_checkHulls.f (([l0, l1] : List (List (S23))))).bind fun t104 => (if t104 = 0 then (plane_Gap.l0 k l0 l1 0 33554432) else (some (0, t104)))
theorem plane_Gap.mono_l : ∀ k, (∀ y0 y1 y2 y3, LeO (plane_Gap.l0 k y0 y1 y2 y3) (plane_Gap.l0 (k + 1) y0 y1 y2 y3))
  | 0 => fun _ _ _ _ r h => by simp [plane_Gap.l0] at h
  | k + 1 => by
    have ih0 := plane_Gap.mono_l k
    · intro y0 y1 y2 y3
      unfold plane_Gap.l0
      repeat' first
      | (with_reducible exact ih0 _ _ _ _)
      | (with_reducible exact LeO.refl _)
      | (with_reducible exact LeO.none _)
      | (with_reducible refine LeO.ite ?_ ?_)
      | (with_reducible refine LeO.bind ?_ (fun _ => ?_))
      | exact ih0 _ _ _ _
      | exact LeO.none _
      | refine LeO.ite ?_ ?_
      | refine LeO.bind ?_ (fun _ => ?_)
theorem plane_Gap.mono : ∀ a0 a1 k, LeO (plane_Gap.f k a0 a1) (plane_Gap.f (k + 1) a0 a1) := by
  intro a0 a1 k
  have ih0 := plane_Gap.mono_l k
  unfold plane_Gap.f
  repeat' first
      | (with_reducible exact ih0 _ _ _ _)
      | (with_reducible exact LeO.refl _)
      | (with_reducible exact LeO.none _)
      | (with_reducible refine LeO.ite ?_ ?_)
      | (with_reducible refine LeO.bind ?_ (fun _ => ?_))
      | exact ih0 _ _ _ _
      | exact LeO.none _
      | refine LeO.ite ?_ ?_
      | refine LeO.bind ?_ (fun _ => ?_)
set_option maxHeartbeats 8000000 in
set_option maxRecDepth 100000 in
theorem plane_Gap.calls (k : Nat) (P0_ : Nat → Prop) (A0 : Option Addr) (c0 : Nat) (l0 : List (S23)) (P1_ : Nat → Prop) (A1 : Option Addr) (c1 : Nat) (l1 : List (S23)) (r1 : Int) (r2 : Int) (w : World) (hs0 : Kd.V k23 23 w w.heap.size (fun k_ => P0_ k_) (.slice A0 l0.length c0) l0) (hs1 : Kd.V k23 23 w w.heap.size (fun k_ => P1_ k_) (.slice A1 l1.length c1) l1) (h : plane_Gap.f k l0 l1 = some (r1, r2)) :
    Calls Try.prog 60 #[.slice A0 l0.length c0, .slice A1 l1.length c1] w fun e w' => e = .returned (.tuple #[.int .i64 r1, .int .i64 r2]) ∧ Below w.heap.size w w' := by
  have HO0 := Aside0.mk (show Kd.V k23 23 w w.heap.size (fun k_ => ((P0_ k_ ∨ P1_ k_) ∨ w.heap.size ≤ k_)) (.slice A0 l0.length c0) l0 from Kd.V_mono hs0 (fun k_ hk => .inl (.inl hk)))
  have HO1 := Aside0.mk (show Kd.V k23 23 w w.heap.size (fun k_ => ((P0_ k_ ∨ P1_ k_) ∨ w.heap.size ≤ k_)) (.slice A1 l1.length c1) l1 from Kd.V_mono hs1 (fun k_ hk => .inl (.inr hk)))
  have HB := Aside0.mk (Below.refl w.heap.size w)
  have H : ((plane_checkHulls.f (([l0, l1] : List (List (S23))))).bind fun t104 => (if t104 = 0 then (plane_Gap.l0 k l0 l1 0 33554432) else (some (0, t104)))) = some (r1, r2) := h
  clear h
  obtain ⟨y101, hy101⟩ : ∃ y_ : List (List (S23)), y_ = (([l0, l1] : List (List (S23)))) := ⟨_, rfl⟩
  replace H : ((plane_checkHulls.f y101).bind fun t104 => (if t104 = 0 then (plane_Gap.l0 k l0 l1 0 33554432) else (some (0, t104)))) = some (r1, r2) := by first | (rw [hy101]; with_reducible exact H) | (have H2_ := (Option.bind_some _ _).symm.trans H; rw [hy101]; with_reducible exact H2_) | (have H2_ := (Option.bind_some _ _).symm.trans H; with_reducible exact H2_) | with_reducible exact H | (rw [hy101]; exact H) | exact H
  have Ny101 := Aside0.mk hy101
  clear hy101
  replace H := Option.bind_eq_some_iff.mp H
  obtain ⟨t104, A30, H⟩ := H
  replace H : (if t104 = 0 then (plane_Gap.l0 k l0 l1 0 33554432) else (some (0, t104))) = some (r1, r2) := H
  have A3 := Aside0.mk A30
  clear A30
  by_cases c4 : t104 = 0
  · rw [if_pos c4] at H
    have c4b0 : (t104 == 0) = true := beq_iff_eq.mpr c4
    have c4b1 : (t104 != 0) = false := bne_eq_false_iff_eq.mpr c4
    clear c4
    have H' := Aside0.mk H
    clear H
    go_enter Try.func60, Try.ntmps60
    go_wp2_with (first | ((with_reducible refine gate_dst (N := 12) rfl ?_); refine Kd.N_lit (Kd.slice 23 k23) _ 53 ?hg (N' := 12) ?hd (xs := ([l0, l1] : List (List (S23)))) (inner := [.slice A0 l0.length c0, .slice A1 l1.length c1]) (ok := (fun k_ => ((P0_ k_ ∨ P1_ k_) ∨ w.heap.size ≤ k_))) (okp := (fun k_ => ((P0_ k_ ∨ P1_ k_) ∨ w.heap.size ≤ k_))) ?hr ?hp (fun _ hk => hk) ((show ∀ k_, w.heap.size ≤ k_ → (fun k_ => ((P0_ k_ ∨ P1_ k_) ∨ w.heap.size ≤ k_)) k_ from fun k_ hk => (.inr (Nat.le_trans (below_size (by repeat (first | (with_reducible first | exact HB.out | apply below_alloc | apply pw_below_drewN | apply below_drew1) | exact HB.out))) hk))) _ (Nat.le_refl _)) (Below.refl _ _) (Nat.le_refl _) (by simp) ?_; (case hd => rfl); (case hg => rfl); (case hr => first | (go_simp; done) | (go_simp; rfl)); (case hp => exact (Reps.one (show Kd.FK (Kd.slice 23 k23) _ _ l0 [.slice A0 l0.length c0] from (Kd.FK_slice_mk (Kd.V_reads' (Kd.V_mono (ok' := (fun k_ => ((P0_ k_ ∨ P1_ k_) ∨ w.heap.size ≤ k_))) (HO0.out) (fun k_ hk => hk))).2.1 (Kd.V_F (Kd.V_mono (ok' := (fun k_ => ((P0_ k_ ∨ P1_ k_) ∨ w.heap.size ≤ k_))) (HO0.out) (fun k_ hk => hk))))) (Reps.one (show Kd.FK (Kd.slice 23 k23) _ _ l1 [.slice A1 l1.length c1] from (Kd.FK_slice_mk (Kd.V_reads' (Kd.V_mono (ok' := (fun k_ => ((P0_ k_ ∨ P1_ k_) ∨ w.heap.size ≤ k_))) (HO1.out) (fun k_ hk => hk))).2.1 (Kd.V_F (Kd.V_mono (ok' := (fun k_ => ((P0_ k_ ∨ P1_ k_) ∨ w.heap.size ≤ k_))) (HO1.out) (fun k_ hk => hk))))) (Reps.none _ _)))); intro v102 w5 ho6 hb hg_ hnew_; clear hg_ hnew_; (first | rw [← Ny101.out] at ho6 | (simp only [Int.reduceToNat] at ho6; rw [← Ny101.out] at ho6)); have n0_ := Aside0.mk (Kd.V_elder' (by (with_reducible repeat (first | apply Kd.V_alloc | apply Kd.V_drewN | apply Kd.V_drew)); exact HO0.out) (Kd.N_base ho6) hb); have n1_ := Aside0.mk (Kd.V_elder' (by (with_reducible repeat (first | apply Kd.V_alloc | apply Kd.V_drewN | apply Kd.V_drew)); exact HO1.out) (Kd.N_base ho6) hb); have n2_ := Aside0.mk (Kd.N_lower ho6 (below_size (by repeat (first | (with_reducible first | exact HB.out | apply below_alloc | apply pw_below_drewN | apply below_drew1) | exact HB.out)))); have n3_ := Aside0.mk (below_step (by repeat (first | (with_reducible first | exact HB.out | apply below_alloc | apply pw_below_drewN | apply below_drew1) | exact HB.out)) hb); clear HO0; clear HO1; clear HB; have HO0 := n0_; have HO1 := n1_; have HO103 := n2_; have HB := n3_; clear n0_ n1_ n2_ n3_; clear hb ho6; obtain ⟨Ao7, co7, eo7⟩ := Kd.N_slice HO103.out; subst eo7) | ((with_reducible refine gate_callee (f := 94) rfl ?_); refine goesL_ (some 13) rfl rfl Try.func94 (by kernel_rfl) rfl #[.slice Ao7 y101.length co7] rfl (by (try simp only [List.map_toArray, List.map_cons, List.map_nil]); first | done | rfl | (simp only [List.length_drop, List.length_take]; rfl)) ?_; (with_reducible refine (plane_checkHulls.calls _ _ y101 t104 _ ?side1 ?side2 A3.out).mono ?_); (case side1 => repeat (first | exact (Kd.N_reads' HO103.out).2.2 | (with_reducible refine Kd.C_alloc ?_ _) | (with_reducible refine Kd.C_drewN ?_ _) | (with_reducible refine Kd.C_drew ?_))); (case side2 => exact (Kd.N_reads' HO103.out).2.1); rintro e w8 ⟨rfl, hb⟩; refine ⟨_, rfl, ?_⟩; have n0_ := Aside0.mk (Kd.V_below (by (with_reducible repeat (first | apply Kd.V_alloc | apply Kd.V_drewN | apply Kd.V_drew)); exact HO0.out) hb); have n1_ := Aside0.mk (Kd.V_below (by (with_reducible repeat (first | apply Kd.V_alloc | apply Kd.V_drewN | apply Kd.V_drew)); exact HO1.out) hb); have n2_ := Aside0.mk (Kd.N_below (by (with_reducible repeat (first | apply Kd.N_alloc | apply Kd.N_drewN | apply Kd.N_drew)); exact HO103.out) hb); have n3_ := Aside0.mk (below_step (by repeat (first | (with_reducible first | exact HB.out | apply below_alloc | apply pw_below_drewN | apply below_drew1) | exact HB.out)) hb); clear HO0; clear HO1; clear HO103; clear HB; have HO0 := n0_; have HO1 := n1_; have HO103 := n2_; have HB := n3_; clear n0_ n1_ n2_ n3_; (try clear hb); (try clear hb2); (try clear hk); (try clear hi)))
    go_loopg [7, 8] k (fun kq v7 v8 w' => ∃ (x7_1 : Int) (x8_1 : Int), v7 = .int .i64 x7_1 ∧ v8 = .int .i64 x8_1 ∧ Aside0 (plane_Gap.l0 kq l0 l1 x7_1 x8_1 = some (r1, r2)) ∧ Aside0 (kq ≤ k) ∧ Aside0 (Kd.V k23 23 w' w.heap.size (fun k_ => ((P0_ k_ ∨ P1_ k_) ∨ w.heap.size ≤ k_)) (.slice A0 l0.length c0) l0) ∧ Aside0 (Kd.V k23 23 w' w.heap.size (fun k_ => ((P0_ k_ ∨ P1_ k_) ∨ w.heap.size ≤ k_)) (.slice A1 l1.length c1) l1) ∧ Aside0 (Below w.heap.size w w'))
    case atStart => exact ⟨(0), (33554432), (by first | rfl | (simp; done) | (simp [*]; done)), (by first | rfl | (simp; done) | (simp [*]; done)), H', ⟨Nat.le_refl _⟩, ⟨by (with_reducible repeat (first | apply Kd.V_alloc | apply Kd.V_drewN | apply Kd.V_drew)); exact Kd.V_mono HO0.out (fun _ hk => hk.1)⟩, ⟨by (with_reducible repeat (first | apply Kd.V_alloc | apply Kd.V_drewN | apply Kd.V_drew)); exact Kd.V_mono HO1.out (fun _ hk => hk.1)⟩, ⟨by repeat (first | (with_reducible first | exact HB.out | apply below_alloc | apply pw_below_drewN | apply below_drew1) | exact HB.out)⟩⟩
    case round =>
      clear H'
      try clear c1
      try clear p2
      try clear c4
      try clear c4b0
      try clear c4b1
      try clear c6
      obtain ⟨x7_1, x8_1, rfl, rfl, HA, HK1, HO_0, HO_1, HB⟩ := hrel
      cases gk with
      | zero => exact absurd HA.out (by simp [plane_Gap.l0])
      | succ k1 =>
        have H := HA.out
        clear HA
        simp only [plane_Gap.l0] at H
        by_cases c9 : x7_1 < x8_1
        · rw [if_pos c9] at H
          have c9b0 : decide (x7_1 < x8_1) = true := decide_eq_true c9
          clear c9
          replace H := Option.bind_eq_some_iff.mp H
          obtain ⟨t105, A100, H⟩ := H
          replace H : ((plane_apart.f t105 l1).bind fun t108 => (if t108 = true then (plane_Gap.l0 k1 l0 l1 (wrap64 ((wrap64 (Int.tdiv (wrap64 (x7_1 + x8_1)) 2)) + 1)) x8_1) else (plane_Gap.l0 k1 l0 l1 x7_1 (wrap64 (Int.tdiv (wrap64 (x7_1 + x8_1)) 2))))) = some (r1, r2) := H
          have A10 := Aside0.mk A100
          clear A100
          replace H := Option.bind_eq_some_iff.mp H
          obtain ⟨t108, A110, H⟩ := H
          replace H : (if t108 = true then (plane_Gap.l0 k1 l0 l1 (wrap64 ((wrap64 (Int.tdiv (wrap64 (x7_1 + x8_1)) 2)) + 1)) x8_1) else (plane_Gap.l0 k1 l0 l1 x7_1 (wrap64 (Int.tdiv (wrap64 (x7_1 + x8_1)) 2)))) = some (r1, r2) := H
          have A11 := Aside0.mk A110
          clear A110
          by_cases c12 : t108 = true
          · subst c12
            have H1 : (plane_Gap.l0 k1 l0 l1 (wrap64 ((wrap64 (Int.tdiv (wrap64 (x7_1 + x8_1)) 2)) + 1)) x8_1) = some (r1, r2) := by rw [if_pos rfl] at H; exact H
            clear H
            have H := H1
            clear H1
            have H' := Aside0.mk H
            clear H
            go_wp2_with (first | ((with_reducible refine gate_callee (f := 100) rfl ?_); refine goesL_ (some 26) rfl rfl Try.func100 (by kernel_rfl) rfl #[.slice A0 l0.length c0, .int .i64 (wrap64 (Int.tdiv (wrap64 (x7_1 + x8_1)) 2))] rfl (by (try simp only [List.map_toArray, List.map_cons, List.map_nil]); first | done | rfl | (simp only [List.length_drop, List.length_take]; rfl)) ?_; (with_reducible refine (plane_grown.calls _ _ l0 (wrap64 (Int.tdiv (wrap64 (x7_1 + x8_1)) 2)) t105 _ ?side1 ?side2 A10.out).mono ?_); (case side1 => repeat (first | exact (Kd.V_reads' HO_0.out).2.2 | (with_reducible refine Kd.C_alloc ?_ _) | (with_reducible refine Kd.C_drewN ?_ _) | (with_reducible refine Kd.C_drew ?_))); (case side2 => exact (Kd.V_reads' HO_0.out).2.1); rintro e w13 ⟨v106, rfl, ho0, hb⟩; refine ⟨_, rfl, ?_⟩; have n0_ := Aside0.mk (Kd.V_elder' (by (with_reducible repeat (first | apply Kd.V_alloc | apply Kd.V_drewN | apply Kd.V_drew)); exact HO_0.out) (Kd.R_base ho0) hb); have n1_ := Aside0.mk (Kd.V_elder' (by (with_reducible repeat (first | apply Kd.V_alloc | apply Kd.V_drewN | apply Kd.V_drew)); exact HO_1.out) (Kd.R_base ho0) hb); have n2_ := Aside0.mk (Kd.R_lower (Kd.R_newM (M := fun k_ => (w.heap.size ≤ k_)) ho0 (below_size (by repeat (first | (with_reducible first | exact HB.out | apply below_alloc | apply pw_below_drewN | apply below_drew1) | exact HB.out))) (fun k_ h_ => h_)) (below_size (by repeat (first | (with_reducible first | exact HB.out | apply below_alloc | apply pw_below_drewN | apply below_drew1) | exact HB.out)))); have n3_ := Aside0.mk (below_step (by repeat (first | (with_reducible first | exact HB.out | apply below_alloc | apply pw_below_drewN | apply below_drew1) | exact HB.out)) hb); clear HO_0; clear HO_1; clear HB; have HO_0 := n0_; have HO_1 := n1_; have HO107 := n2_; have HB := n3_; clear n0_ n1_ n2_ n3_; (try clear hb); (try clear hb2); (try clear hk); (try clear hi); (try clear ho0); obtain ⟨Ao14, co14, eo14⟩ := Kd.R_slice HO107.out; subst eo14) | ((with_reducible refine gate_callee (f := 95) rfl ?_); refine goesL_ (some 28) rfl rfl Try.func95 (by kernel_rfl) rfl #[.slice Ao14 t105.length co14, .slice A1 l1.length c1] rfl (by (try simp only [List.map_toArray, List.map_cons, List.map_nil]); first | done | rfl | (simp only [List.length_drop, List.length_take]; rfl)) ?_; (with_reducible refine (plane_apart.calls _ _ t105 _ _ l1 true _ ?side1 ?side2 ?side3 ?side4 A11.out).mono ?_); (case side1 => repeat (first | exact (Kd.R_reads' HO107.out).2.2 | (with_reducible refine Kd.C_alloc ?_ _) | (with_reducible refine Kd.C_drewN ?_ _) | (with_reducible refine Kd.C_drew ?_))); (case side2 => exact (Kd.R_reads' HO107.out).2.1); (case side3 => repeat (first | exact (Kd.V_reads' HO_1.out).2.2 | (with_reducible refine Kd.C_alloc ?_ _) | (with_reducible refine Kd.C_drewN ?_ _) | (with_reducible refine Kd.C_drew ?_))); (case side4 => exact (Kd.V_reads' HO_1.out).2.1); rintro e w15 ⟨rfl, hb⟩; refine ⟨_, rfl, ?_⟩; have n0_ := Aside0.mk (Kd.V_below (by (with_reducible repeat (first | apply Kd.V_alloc | apply Kd.V_drewN | apply Kd.V_drew)); exact HO_0.out) hb); have n1_ := Aside0.mk (Kd.V_below (by (with_reducible repeat (first | apply Kd.V_alloc | apply Kd.V_drewN | apply Kd.V_drew)); exact HO_1.out) hb); have n2_ := Aside0.mk (Kd.R_below (by (with_reducible repeat (first | apply Kd.R_alloc | apply Kd.R_drewN | apply Kd.R_drew)); exact HO107.out) hb); have n3_ := Aside0.mk (below_step (by repeat (first | (with_reducible first | exact HB.out | apply below_alloc | apply pw_below_drewN | apply below_drew1) | exact HB.out)) hb); clear HO_0; clear HO_1; clear HO107; clear HB; have HO_0 := n0_; have HO_1 := n1_; have HO107 := n2_; have HB := n3_; clear n0_ n1_ n2_ n3_; (try clear hb); (try clear hb2); (try clear hk); (try clear hi)))
            go_roundg k1
            case measure => have := HK1.out; omega
            case rel => exact ⟨(wrap64 ((wrap64 (Int.tdiv (wrap64 (x7_1 + x8_1)) 2)) + 1)), (x8_1), (by first | rfl | (simp; done) | (simp [*]; done)), (by first | rfl | (simp; done) | (simp [*]; done)), H', ⟨by have := HK1.out; omega⟩, ⟨by (with_reducible repeat (first | apply Kd.V_alloc | apply Kd.V_drewN | apply Kd.V_drew)); exact Kd.V_mono HO_0.out (fun _ hk => hk.1)⟩, ⟨by (with_reducible repeat (first | apply Kd.V_alloc | apply Kd.V_drewN | apply Kd.V_drew)); exact Kd.V_mono HO_1.out (fun _ hk => hk.1)⟩, ⟨by repeat (first | (with_reducible first | exact HB.out | apply below_alloc | apply pw_below_drewN | apply below_drew1) | exact HB.out)⟩⟩
          · replace c12 := Bool.eq_false_iff.mpr c12
            subst c12
            have H1 : (plane_Gap.l0 k1 l0 l1 x7_1 (wrap64 (Int.tdiv (wrap64 (x7_1 + x8_1)) 2))) = some (r1, r2) := by rw [if_neg (show ¬ (false = true) by decide)] at H; exact H
            clear H
            have H := H1
            clear H1
            have H' := Aside0.mk H
            clear H
            go_wp2_with (first | ((with_reducible refine gate_callee (f := 100) rfl ?_); refine goesL_ (some 26) rfl rfl Try.func100 (by kernel_rfl) rfl #[.slice A0 l0.length c0, .int .i64 (wrap64 (Int.tdiv (wrap64 (x7_1 + x8_1)) 2))] rfl (by (try simp only [List.map_toArray, List.map_cons, List.map_nil]); first | done | rfl | (simp only [List.length_drop, List.length_take]; rfl)) ?_; (with_reducible refine (plane_grown.calls _ _ l0 (wrap64 (Int.tdiv (wrap64 (x7_1 + x8_1)) 2)) t105 _ ?side1 ?side2 A10.out).mono ?_); (case side1 => repeat (first | exact (Kd.V_reads' HO_0.out).2.2 | (with_reducible refine Kd.C_alloc ?_ _) | (with_reducible refine Kd.C_drewN ?_ _) | (with_reducible refine Kd.C_drew ?_))); (case side2 => exact (Kd.V_reads' HO_0.out).2.1); rintro e w16 ⟨v106, rfl, ho0, hb⟩; refine ⟨_, rfl, ?_⟩; have n0_ := Aside0.mk (Kd.V_elder' (by (with_reducible repeat (first | apply Kd.V_alloc | apply Kd.V_drewN | apply Kd.V_drew)); exact HO_0.out) (Kd.R_base ho0) hb); have n1_ := Aside0.mk (Kd.V_elder' (by (with_reducible repeat (first | apply Kd.V_alloc | apply Kd.V_drewN | apply Kd.V_drew)); exact HO_1.out) (Kd.R_base ho0) hb); have n2_ := Aside0.mk (Kd.R_lower (Kd.R_newM (M := fun k_ => (w.heap.size ≤ k_)) ho0 (below_size (by repeat (first | (with_reducible first | exact HB.out | apply below_alloc | apply pw_below_drewN | apply below_drew1) | exact HB.out))) (fun k_ h_ => h_)) (below_size (by repeat (first | (with_reducible first | exact HB.out | apply below_alloc | apply pw_below_drewN | apply below_drew1) | exact HB.out)))); have n3_ := Aside0.mk (below_step (by repeat (first | (with_reducible first | exact HB.out | apply below_alloc | apply pw_below_drewN | apply below_drew1) | exact HB.out)) hb); clear HO_0; clear HO_1; clear HB; have HO_0 := n0_; have HO_1 := n1_; have HO107 := n2_; have HB := n3_; clear n0_ n1_ n2_ n3_; (try clear hb); (try clear hb2); (try clear hk); (try clear hi); (try clear ho0); obtain ⟨Ao17, co17, eo17⟩ := Kd.R_slice HO107.out; subst eo17) | ((with_reducible refine gate_callee (f := 95) rfl ?_); refine goesL_ (some 28) rfl rfl Try.func95 (by kernel_rfl) rfl #[.slice Ao17 t105.length co17, .slice A1 l1.length c1] rfl (by (try simp only [List.map_toArray, List.map_cons, List.map_nil]); first | done | rfl | (simp only [List.length_drop, List.length_take]; rfl)) ?_; (with_reducible refine (plane_apart.calls _ _ t105 _ _ l1 false _ ?side1 ?side2 ?side3 ?side4 A11.out).mono ?_); (case side1 => repeat (first | exact (Kd.R_reads' HO107.out).2.2 | (with_reducible refine Kd.C_alloc ?_ _) | (with_reducible refine Kd.C_drewN ?_ _) | (with_reducible refine Kd.C_drew ?_))); (case side2 => exact (Kd.R_reads' HO107.out).2.1); (case side3 => repeat (first | exact (Kd.V_reads' HO_1.out).2.2 | (with_reducible refine Kd.C_alloc ?_ _) | (with_reducible refine Kd.C_drewN ?_ _) | (with_reducible refine Kd.C_drew ?_))); (case side4 => exact (Kd.V_reads' HO_1.out).2.1); rintro e w18 ⟨rfl, hb⟩; refine ⟨_, rfl, ?_⟩; have n0_ := Aside0.mk (Kd.V_below (by (with_reducible repeat (first | apply Kd.V_alloc | apply Kd.V_drewN | apply Kd.V_drew)); exact HO_0.out) hb); have n1_ := Aside0.mk (Kd.V_below (by (with_reducible repeat (first | apply Kd.V_alloc | apply Kd.V_drewN | apply Kd.V_drew)); exact HO_1.out) hb); have n2_ := Aside0.mk (Kd.R_below (by (with_reducible repeat (first | apply Kd.R_alloc | apply Kd.R_drewN | apply Kd.R_drew)); exact HO107.out) hb); have n3_ := Aside0.mk (below_step (by repeat (first | (with_reducible first | exact HB.out | apply below_alloc | apply pw_below_drewN | apply below_drew1) | exact HB.out)) hb); clear HO_0; clear HO_1; clear HO107; clear HB; have HO_0 := n0_; have HO_1 := n1_; have HO107 := n2_; have HB := n3_; clear n0_ n1_ n2_ n3_; (try clear hb); (try clear hb2); (try clear hk); (try clear hi)))
            go_roundg k1
            case measure => have := HK1.out; omega
            case rel => exact ⟨(x7_1), (wrap64 (Int.tdiv (wrap64 (x7_1 + x8_1)) 2)), (by first | rfl | (simp; done) | (simp [*]; done)), (by first | rfl | (simp; done) | (simp [*]; done)), H', ⟨by have := HK1.out; omega⟩, ⟨by (with_reducible repeat (first | apply Kd.V_alloc | apply Kd.V_drewN | apply Kd.V_drew)); exact Kd.V_mono HO_0.out (fun _ hk => hk.1)⟩, ⟨by (with_reducible repeat (first | apply Kd.V_alloc | apply Kd.V_drewN | apply Kd.V_drew)); exact Kd.V_mono HO_1.out (fun _ hk => hk.1)⟩, ⟨by repeat (first | (with_reducible first | exact HB.out | apply below_alloc | apply pw_below_drewN | apply below_drew1) | exact HB.out)⟩⟩
        · rw [if_neg c9] at H
          have c9b0 : decide (x7_1 < x8_1) = false := decide_eq_false c9
          clear c9
          simp only [Option.some.injEq, Prod.mk.injEq] at H
          obtain ⟨rfl, rfl⟩ := H
          go_wp2
          go_ret2
          exact ⟨by first | rfl | (simp [errW_none, errW_some] <;> rfl) | (simp [*, errW_none, errW_some] <;> rfl), by repeat (first | (with_reducible first | exact HB.out | apply below_alloc | apply pw_below_drewN | apply below_drew1) | exact HB.out)⟩
  · rw [if_neg c4] at H
    have c4b0 : (t104 == 0) = false := beq_eq_false_iff_ne.mpr c4
    have c4b1 : (t104 != 0) = true := bne_iff_ne.mpr c4
    simp only [Option.some.injEq, Prod.mk.injEq] at H
    obtain ⟨rfl, rfl⟩ := H
    go_enter Try.func60, Try.ntmps60
    go_wp2_with (first | ((with_reducible refine gate_dst (N := 12) rfl ?_); refine Kd.N_lit (Kd.slice 23 k23) _ 53 ?hg (N' := 12) ?hd (xs := ([l0, l1] : List (List (S23)))) (inner := [.slice A0 l0.length c0, .slice A1 l1.length c1]) (ok := (fun k_ => ((P0_ k_ ∨ P1_ k_) ∨ w.heap.size ≤ k_))) (okp := (fun k_ => ((P0_ k_ ∨ P1_ k_) ∨ w.heap.size ≤ k_))) ?hr ?hp (fun _ hk => hk) ((show ∀ k_, w.heap.size ≤ k_ → (fun k_ => ((P0_ k_ ∨ P1_ k_) ∨ w.heap.size ≤ k_)) k_ from fun k_ hk => (.inr (Nat.le_trans (below_size (by repeat (first | (with_reducible first | exact HB.out | apply below_alloc | apply pw_below_drewN | apply below_drew1) | exact HB.out))) hk))) _ (Nat.le_refl _)) (Below.refl _ _) (Nat.le_refl _) (by simp) ?_; (case hd => rfl); (case hg => rfl); (case hr => first | (go_simp; done) | (go_simp; rfl)); (case hp => exact (Reps.one (show Kd.FK (Kd.slice 23 k23) _ _ l0 [.slice A0 l0.length c0] from (Kd.FK_slice_mk (Kd.V_reads' (Kd.V_mono (ok' := (fun k_ => ((P0_ k_ ∨ P1_ k_) ∨ w.heap.size ≤ k_))) (HO0.out) (fun k_ hk => hk))).2.1 (Kd.V_F (Kd.V_mono (ok' := (fun k_ => ((P0_ k_ ∨ P1_ k_) ∨ w.heap.size ≤ k_))) (HO0.out) (fun k_ hk => hk))))) (Reps.one (show Kd.FK (Kd.slice 23 k23) _ _ l1 [.slice A1 l1.length c1] from (Kd.FK_slice_mk (Kd.V_reads' (Kd.V_mono (ok' := (fun k_ => ((P0_ k_ ∨ P1_ k_) ∨ w.heap.size ≤ k_))) (HO1.out) (fun k_ hk => hk))).2.1 (Kd.V_F (Kd.V_mono (ok' := (fun k_ => ((P0_ k_ ∨ P1_ k_) ∨ w.heap.size ≤ k_))) (HO1.out) (fun k_ hk => hk))))) (Reps.none _ _)))); intro v102 w19 ho20 hb hg_ hnew_; clear hg_ hnew_; (first | rw [← Ny101.out] at ho20 | (simp only [Int.reduceToNat] at ho20; rw [← Ny101.out] at ho20)); have n0_ := Aside0.mk (Kd.V_elder' (by (with_reducible repeat (first | apply Kd.V_alloc | apply Kd.V_drewN | apply Kd.V_drew)); exact HO0.out) (Kd.N_base ho20) hb); have n1_ := Aside0.mk (Kd.V_elder' (by (with_reducible repeat (first | apply Kd.V_alloc | apply Kd.V_drewN | apply Kd.V_drew)); exact HO1.out) (Kd.N_base ho20) hb); have n2_ := Aside0.mk (Kd.N_lower ho20 (below_size (by repeat (first | (with_reducible first | exact HB.out | apply below_alloc | apply pw_below_drewN | apply below_drew1) | exact HB.out)))); have n3_ := Aside0.mk (below_step (by repeat (first | (with_reducible first | exact HB.out | apply below_alloc | apply pw_below_drewN | apply below_drew1) | exact HB.out)) hb); clear HO0; clear HO1; clear HB; have HO0 := n0_; have HO1 := n1_; have HO103 := n2_; have HB := n3_; clear n0_ n1_ n2_ n3_; clear hb ho20; obtain ⟨Ao21, co21, eo21⟩ := Kd.N_slice HO103.out; subst eo21) | ((with_reducible refine gate_callee (f := 94) rfl ?_); refine goesL_ (some 13) rfl rfl Try.func94 (by kernel_rfl) rfl #[.slice Ao21 y101.length co21] rfl (by (try simp only [List.map_toArray, List.map_cons, List.map_nil]); first | done | rfl | (simp only [List.length_drop, List.length_take]; rfl)) ?_; (with_reducible refine (plane_checkHulls.calls _ _ y101 t104 _ ?side1 ?side2 A3.out).mono ?_); (case side1 => repeat (first | exact (Kd.N_reads' HO103.out).2.2 | (with_reducible refine Kd.C_alloc ?_ _) | (with_reducible refine Kd.C_drewN ?_ _) | (with_reducible refine Kd.C_drew ?_))); (case side2 => exact (Kd.N_reads' HO103.out).2.1); rintro e w22 ⟨rfl, hb⟩; refine ⟨_, rfl, ?_⟩; have n0_ := Aside0.mk (Kd.V_below (by (with_reducible repeat (first | apply Kd.V_alloc | apply Kd.V_drewN | apply Kd.V_drew)); exact HO0.out) hb); have n1_ := Aside0.mk (Kd.V_below (by (with_reducible repeat (first | apply Kd.V_alloc | apply Kd.V_drewN | apply Kd.V_drew)); exact HO1.out) hb); have n2_ := Aside0.mk (Kd.N_below (by (with_reducible repeat (first | apply Kd.N_alloc | apply Kd.N_drewN | apply Kd.N_drew)); exact HO103.out) hb); have n3_ := Aside0.mk (below_step (by repeat (first | (with_reducible first | exact HB.out | apply below_alloc | apply pw_below_drewN | apply below_drew1) | exact HB.out)) hb); clear HO0; clear HO1; clear HO103; clear HB; have HO0 := n0_; have HO1 := n1_; have HO103 := n2_; have HB := n3_; clear n0_ n1_ n2_ n3_; (try clear hb); (try clear hb2); (try clear hk); (try clear hi)))
    go_ret2
    exact ⟨by first | rfl | (simp [errW_none, errW_some] <;> rfl) | (simp [*, errW_none, errW_some] <;> rfl), by repeat (first | (with_reducible first | exact HB.out | apply below_alloc | apply pw_below_drewN | apply below_drew1) | exact HB.out)⟩
end Go.Proofs.Ytegdcnjjelgpjaa.P
namespace Go.Proofs.Ytegdcnjjelgpjaa.P
open Go.RowKit Go.Proofs.YtegdcnjjelgpjaaW.PrintWords Go.Proofs.YtegdcnjjelgpjaaW.PrintLast Go.Proofs.YtegdcnjjelgpjaaW.PrintMore
attribute [local go_sem] max2_int min2_int max_two min_two max_three min_three max_four min_four   -- for this text's walks alone
set_option linter.unusedVariables false
set_option linter.unusedSimpArgs false
mutual
def goosenecklaw01_PlaneGaps.j0 : Nat → List (S32) → List (S32) → Int → Int → List (S23) → List (S23) → Bool → Option (Bool)
  | 0, _, _, _, _, _, _, _ => none
  | k + 1, x0, x1, x2, x3, x9, x11, x40 => if x40 = true then (if (x0.length : Int) = 0 then ((goosenecklaw01_works.f k).bind fun t115 => (some t115)) else (if (x1.length : Int) = 0 then ((goosenecklaw01_works.f k).bind fun t116 => (some t116)) else (some false))) else ((plane_Gap.f k x9 x11).bind fun bt117 => (if bt117.2 = 0 then (if bt117.1 < 0 then (goosenecklaw01_PlaneGaps.j1 k x2 x3 x9 x11 bt117.1 true) else (goosenecklaw01_PlaneGaps.j1 k x2 x3 x9 x11 bt117.1 (decide (bt117.1 > 1000)))) else (goosenecklaw01_PlaneGaps.j1 k x2 x3 x9 x11 bt117.1 true)))
def goosenecklaw01_PlaneGaps.j1 : Nat → Int → Int → List (S23) → List (S23) → Int → Bool → Option (Bool)
  | 0, _, _, _, _, _, _ => none
  | k + 1, x2, x3, x9, x11, x13, x67 => if x67 = true then (some false) else (goosenecklaw01_PlaneGaps.l0 k x2 x3 x9 x11 x13 (mx 0 (wrap64 (x13 - 2))))
def goosenecklaw01_PlaneGaps.l0 : Nat → Int → Int → List (S23) → List (S23) → Int → Int → Option (Bool)
  | 0, _, _, _, _, _, _ => none
  | k + 1, x2, x3, x9, x11, x13, x14 => if x14 ≤ (wrap64 (x13 + 1)) then ((plane_Grow.f k x9 x14).bind fun bt119 => ((plane_Meet.f bt119.1 x11).bind fun bt123 => (if bt119.2 = 0 then (if bt123.2 = 0 then (if (bt123.1 != (decide (x14 ≥ x13))) = true then (some false) else (goosenecklaw01_PlaneGaps.l0 k x2 x3 x9 x11 x13 (wrap64 (x14 + 1)))) else (some false)) else (some false)))) else (goosenecklaw01_PlaneGaps.l1 k x2 x3 x9 x11 x13 ([] : List (S23)) 0)
def goosenecklaw01_PlaneGaps.l1 : Nat → Int → Int → List (S23) → List (S23) → Int → List (S23) → Int → Option (Bool)
  | 0, _, _, _, _, _, _, _ => none
  | k + 1, x2, x3, x9, x11, x13, x19, x20 => if x20 < (x11.length : Int) then (if 0 ≤ x20 then (if x19.length < 8796093022208 then (goosenecklaw01_PlaneGaps.l1 k x2 x3 x9 x11 x13 (x19 ++ [(⟨wrap64 (((rd_T23 x11 x20).f0) + (wrap64 (x2))), wrap64 (((rd_T23 x11 x20).f1) + (wrap64 (x3)))⟩ : S23)]) (wrap64 (x20 + 1))) else (none)) else (none)) else ((plane_Gap.f k x9 x19).bind fun bt130 => (if bt130.2 = 0 then (if bt130.1 ≤ (wrap64 (x13 + (mx (mx (mx (wrap64 (x2)) (wrap64 (-(wrap64 (x2))))) (wrap64 (x3))) (wrap64 (-(wrap64 (x3))))))) then (if x13 ≤ (wrap64 (bt130.1 + (mx (mx (mx (wrap64 (x2)) (wrap64 (-(wrap64 (x2))))) (wrap64 (x3))) (wrap64 (-(wrap64 (x3))))))) then ((goosenecklaw01_works.f k).bind fun t132 => (some t132)) else (some false)) else (some false)) else (some false)))
end
def goosenecklaw01_PlaneGaps.f (k : Nat) (l0 : List (S32)) (l1 : List (S32)) (a2 : Int) (a3 : Int) : Option (Bool) := (goosenecklaw01_few.f k l0 8).bind fun t101 => ((plane_Hull.f k t101).bind fun bt104 => ((goosenecklaw01_few.f k l1 8).bind fun t108 => ((plane_Hull.f k t108).bind fun bt111 => (if bt104.2 = 0 then (goosenecklaw01_PlaneGaps.j0 k l0 l1 a2 a3 bt104.1 bt111.1 (bt111.2 != 0)) else (goosenecklaw01_PlaneGaps.j0 k l0 l1 a2 a3 bt104.1 bt111.1 true)))))
theorem goosenecklaw01_PlaneGaps.mono_l : ∀ k, (∀ y0 y1 y2 y3 y4 y5 y6, LeO (goosenecklaw01_PlaneGaps.j0 k y0 y1 y2 y3 y4 y5 y6) (goosenecklaw01_PlaneGaps.j0 (k + 1) y0 y1 y2 y3 y4 y5 y6)) ∧ (∀ y0 y1 y2 y3 y4 y5, LeO (goosenecklaw01_PlaneGaps.j1 k y0 y1 y2 y3 y4 y5) (goosenecklaw01_PlaneGaps.j1 (k + 1) y0 y1 y2 y3 y4 y5)) ∧ (∀ y0 y1 y2 y3 y4 y5, LeO (goosenecklaw01_PlaneGaps.l0 k y0 y1 y2 y3 y4 y5) (goosenecklaw01_PlaneGaps.l0 (k + 1) y0 y1 y2 y3 y4 y5)) ∧ (∀ y0 y1 y2 y3 y4 y5 y6, LeO (goosenecklaw01_PlaneGaps.l1 k y0 y1 y2 y3 y4 y5 y6) (goosenecklaw01_PlaneGaps.l1 (k + 1) y0 y1 y2 y3 y4 y5 y6))
  | 0 => ⟨fun _ _ _ _ _ _ _ r h => by simp [goosenecklaw01_PlaneGaps.j0] at h, fun _ _ _ _ _ _ r h => by simp [goosenecklaw01_PlaneGaps.j1] at h, fun _ _ _ _ _ _ r h => by simp [goosenecklaw01_PlaneGaps.l0] at h, fun _ _ _ _ _ _ _ r h => by simp [goosenecklaw01_PlaneGaps.l1] at h⟩
  | k + 1 => by
    obtain ⟨ih0, ih1, ih2, ih3⟩ := goosenecklaw01_PlaneGaps.mono_l k
    refine ⟨?_, ?_, ?_, ?_⟩
    · intro y0 y1 y2 y3 y4 y5 y6
      unfold goosenecklaw01_PlaneGaps.j0
      repeat' first
      | (with_reducible exact ih0 _ _ _ _ _ _ _)
      | (with_reducible exact ih1 _ _ _ _ _ _)
      | (with_reducible exact ih2 _ _ _ _ _ _)
      | (with_reducible exact ih3 _ _ _ _ _ _ _)
      | (with_reducible exact goosenecklaw01_few.mono _ _ _)
      | (with_reducible exact goosenecklaw01_works.mono _)
      | (with_reducible exact plane_Gap.mono _ _ _)
      | (with_reducible exact plane_Grow.mono _ _ _)
      | (with_reducible exact plane_Hull.mono _ _)
      | (with_reducible exact LeO.refl _)
      | (with_reducible exact LeO.none _)
      | (with_reducible refine LeO.ite ?_ ?_)
      | (with_reducible refine LeO.bind ?_ (fun _ => ?_))
      | exact ih0 _ _ _ _ _ _ _
      | exact ih1 _ _ _ _ _ _
      | exact ih2 _ _ _ _ _ _
      | exact ih3 _ _ _ _ _ _ _
      | exact goosenecklaw01_few.mono _ _ _
      | exact goosenecklaw01_works.mono _
      | exact plane_Gap.mono _ _ _
      | exact plane_Grow.mono _ _ _
      | exact plane_Hull.mono _ _
      | exact LeO.none _
      | refine LeO.ite ?_ ?_
      | refine LeO.bind ?_ (fun _ => ?_)
    · intro y0 y1 y2 y3 y4 y5
      unfold goosenecklaw01_PlaneGaps.j1
      repeat' first
      | (with_reducible exact ih0 _ _ _ _ _ _ _)
      | (with_reducible exact ih1 _ _ _ _ _ _)
      | (with_reducible exact ih2 _ _ _ _ _ _)
      | (with_reducible exact ih3 _ _ _ _ _ _ _)
      | (with_reducible exact goosenecklaw01_few.mono _ _ _)
      | (with_reducible exact goosenecklaw01_works.mono _)
      | (with_reducible exact plane_Gap.mono _ _ _)
      | (with_reducible exact plane_Grow.mono _ _ _)
      | (with_reducible exact plane_Hull.mono _ _)
      | (with_reducible exact LeO.refl _)
      | (with_reducible exact LeO.none _)
      | (with_reducible refine LeO.ite ?_ ?_)
      | (with_reducible refine LeO.bind ?_ (fun _ => ?_))
      | exact ih0 _ _ _ _ _ _ _
      | exact ih1 _ _ _ _ _ _
      | exact ih2 _ _ _ _ _ _
      | exact ih3 _ _ _ _ _ _ _
      | exact goosenecklaw01_few.mono _ _ _
      | exact goosenecklaw01_works.mono _
      | exact plane_Gap.mono _ _ _
      | exact plane_Grow.mono _ _ _
      | exact plane_Hull.mono _ _
      | exact LeO.none _
      | refine LeO.ite ?_ ?_
      | refine LeO.bind ?_ (fun _ => ?_)
    · intro y0 y1 y2 y3 y4 y5
      unfold goosenecklaw01_PlaneGaps.l0
      repeat' first
      | (with_reducible exact ih0 _ _ _ _ _ _ _)
      | (with_reducible exact ih1 _ _ _ _ _ _)
      | (with_reducible exact ih2 _ _ _ _ _ _)
      | (with_reducible exact ih3 _ _ _ _ _ _ _)
      | (with_reducible exact goosenecklaw01_few.mono _ _ _)
      | (with_reducible exact goosenecklaw01_works.mono _)
      | (with_reducible exact plane_Gap.mono _ _ _)
      | (with_reducible exact plane_Grow.mono _ _ _)
      | (with_reducible exact plane_Hull.mono _ _)
      | (with_reducible exact LeO.refl _)
      | (with_reducible exact LeO.none _)
      | (with_reducible refine LeO.ite ?_ ?_)
      | (with_reducible refine LeO.bind ?_ (fun _ => ?_))
      | exact ih0 _ _ _ _ _ _ _
      | exact ih1 _ _ _ _ _ _
      | exact ih2 _ _ _ _ _ _
      | exact ih3 _ _ _ _ _ _ _
      | exact goosenecklaw01_few.mono _ _ _
      | exact goosenecklaw01_works.mono _
      | exact plane_Gap.mono _ _ _
      | exact plane_Grow.mono _ _ _
      | exact plane_Hull.mono _ _
      | exact LeO.none _
      | refine LeO.ite ?_ ?_
      | refine LeO.bind ?_ (fun _ => ?_)
    · intro y0 y1 y2 y3 y4 y5 y6
      unfold goosenecklaw01_PlaneGaps.l1
      repeat' first
      | (with_reducible exact ih0 _ _ _ _ _ _ _)
      | (with_reducible exact ih1 _ _ _ _ _ _)
      | (with_reducible exact ih2 _ _ _ _ _ _)
      | (with_reducible exact ih3 _ _ _ _ _ _ _)
      | (with_reducible exact goosenecklaw01_few.mono _ _ _)
      | (with_reducible exact goosenecklaw01_works.mono _)
      | (with_reducible exact plane_Gap.mono _ _ _)
      | (with_reducible exact plane_Grow.mono _ _ _)
      | (with_reducible exact plane_Hull.mono _ _)
      | (with_reducible exact LeO.refl _)
      | (with_reducible exact LeO.none _)
      | (with_reducible refine LeO.ite ?_ ?_)
      | (with_reducible refine LeO.bind ?_ (fun _ => ?_))
      | exact ih0 _ _ _ _ _ _ _
      | exact ih1 _ _ _ _ _ _
      | exact ih2 _ _ _ _ _ _
      | exact ih3 _ _ _ _ _ _ _
      | exact goosenecklaw01_few.mono _ _ _
      | exact goosenecklaw01_works.mono _
      | exact plane_Gap.mono _ _ _
      | exact plane_Grow.mono _ _ _
      | exact plane_Hull.mono _ _
      | exact LeO.none _
      | refine LeO.ite ?_ ?_
      | refine LeO.bind ?_ (fun _ => ?_)
theorem goosenecklaw01_PlaneGaps.mono : ∀ a0 a1 a2 a3 k, LeO (goosenecklaw01_PlaneGaps.f k a0 a1 a2 a3) (goosenecklaw01_PlaneGaps.f (k + 1) a0 a1 a2 a3) := by
  intro a0 a1 a2 a3 k
  obtain ⟨ih0, ih1, ih2, ih3⟩ := goosenecklaw01_PlaneGaps.mono_l k
  unfold goosenecklaw01_PlaneGaps.f
  repeat' first
      | (with_reducible exact ih0 _ _ _ _ _ _ _)
      | (with_reducible exact ih1 _ _ _ _ _ _)
      | (with_reducible exact ih2 _ _ _ _ _ _)
      | (with_reducible exact ih3 _ _ _ _ _ _ _)
      | (with_reducible exact goosenecklaw01_few.mono _ _ _)
      | (with_reducible exact goosenecklaw01_works.mono _)
      | (with_reducible exact plane_Gap.mono _ _ _)
      | (with_reducible exact plane_Grow.mono _ _ _)
      | (with_reducible exact plane_Hull.mono _ _)
      | (with_reducible exact LeO.refl _)
      | (with_reducible exact LeO.none _)
      | (with_reducible refine LeO.ite ?_ ?_)
      | (with_reducible refine LeO.bind ?_ (fun _ => ?_))
      | exact ih0 _ _ _ _ _ _ _
      | exact ih1 _ _ _ _ _ _
      | exact ih2 _ _ _ _ _ _
      | exact ih3 _ _ _ _ _ _ _
      | exact goosenecklaw01_few.mono _ _ _
      | exact goosenecklaw01_works.mono _
      | exact plane_Gap.mono _ _ _
      | exact plane_Grow.mono _ _ _
      | exact plane_Hull.mono _ _
      | exact LeO.none _
      | refine LeO.ite ?_ ?_
      | refine LeO.bind ?_ (fun _ => ?_)
def goosenecklaw01_PlaneGaps.T19 : Bool × List (List Nat × List Nat) := (true, [([], []), ([], []), ([], []), ([1, 2], [1, 2]), ([3], [3]), ([4], [4]), ([], []), ([6], [6]), ([5, 7], [5, 7]), ([], []), ([], []), ([9, 10], [9, 10]), ([11], [11]), ([12], [12]), ([], []), ([14], [14]), ([13, 15], [13, 15]), ([8, 16], [8, 16]), ([17], [17]), ([0, 18], [0, 18]), ([19, 19, 0, 1, 2, 3, 4, 5, 6, 7, 8, 9, 10, 11, 12, 13, 14, 15, 16, 17, 18, 19], [0, 19])])
def goosenecklaw01_PlaneGaps.B19 : List Nat := [0, 0, 0, 6, 14, 30, 0, 64, 254, 0, 0, 1536, 3584, 7680, 0, 16384, 65024, 131070, 262142, 524287, 1048575]
theorem goosenecklaw01_PlaneGaps.tab19 : rtab .any (opsOf Try.f13 19) = goosenecklaw01_PlaneGaps.T19 := by kernel_rfl
theorem goosenecklaw01_PlaneGaps.bits19 : waitsOk goosenecklaw01_PlaneGaps.T19.2 goosenecklaw01_PlaneGaps.B19 = true := by kernel_rfl
set_option maxHeartbeats 8000000 in
set_option maxRecDepth 100000 in
theorem goosenecklaw01_PlaneGaps.calls (k : Nat) (A0 : Option Addr) (c0 : Nat) (l0 : List (S32)) (A1 : Option Addr) (c1 : Nat) (l1 : List (S32)) (a2 : Int) (a3 : Int) (r : Bool) (w : World) (hr0 : Kd.C k32 w A0 l0.length l0) (hc0 : l0.length ≤ c0) (hr1 : Kd.C k32 w A1 l1.length l1) (hc1 : l1.length ≤ c1) (hr_ : Aside0 (r = true)) (h : goosenecklaw01_PlaneGaps.f k l0 l1 a2 a3 = some r) :
    Calls Try.prog 13 #[.slice A0 l0.length c0, .slice A1 l1.length c1, .int .i8 a2, .int .i8 a3] w fun e w' => e = .returned (.bool r) ∧ Below w.heap.size w w' := by
  have hu23 := Try.underlying23
  have HR0 := Aside0.mk hr0
  have HC0 := Aside0.mk hc0
  clear hr0 hc0
  have HR1 := Aside0.mk hr1
  have HC1 := Aside0.mk hc1
  clear hr1 hc1
  have HB := Aside0.mk (Below.refl w.heap.size w)
  have H : ((goosenecklaw01_few.f k l0 8).bind fun t101 => ((plane_Hull.f k t101).bind fun bt104 => ((goosenecklaw01_few.f k l1 8).bind fun t108 => ((plane_Hull.f k t108).bind fun bt111 => (if bt104.2 = 0 then (goosenecklaw01_PlaneGaps.j0 k l0 l1 a2 a3 bt104.1 bt111.1 (bt111.2 != 0)) else (goosenecklaw01_PlaneGaps.j0 k l0 l1 a2 a3 bt104.1 bt111.1 true)))))) = some r := h
  clear h
  replace H := Option.bind_eq_some_iff.mp H
  obtain ⟨t101, A50, H⟩ := H
  replace H : ((plane_Hull.f k t101).bind fun bt104 => ((goosenecklaw01_few.f k l1 8).bind fun t108 => ((plane_Hull.f k t108).bind fun bt111 => (if bt104.2 = 0 then (goosenecklaw01_PlaneGaps.j0 k l0 l1 a2 a3 bt104.1 bt111.1 (bt111.2 != 0)) else (goosenecklaw01_PlaneGaps.j0 k l0 l1 a2 a3 bt104.1 bt111.1 true))))) = some r := H
  have A5 := Aside0.mk A50
  clear A50
  replace H := Option.bind_eq_some_iff.mp H
  obtain ⟨⟨t104, t107⟩, A60, H⟩ := H
  replace H : ((goosenecklaw01_few.f k l1 8).bind fun t108 => ((plane_Hull.f k t108).bind fun bt111 => (if t107 = 0 then (goosenecklaw01_PlaneGaps.j0 k l0 l1 a2 a3 t104 bt111.1 (bt111.2 != 0)) else (goosenecklaw01_PlaneGaps.j0 k l0 l1 a2 a3 t104 bt111.1 true)))) = some r := H
  have A6 := Aside0.mk A60
  clear A60
  replace H := Option.bind_eq_some_iff.mp H
  obtain ⟨t108, A70, H⟩ := H
  replace H : ((plane_Hull.f k t108).bind fun bt111 => (if t107 = 0 then (goosenecklaw01_PlaneGaps.j0 k l0 l1 a2 a3 t104 bt111.1 (bt111.2 != 0)) else (goosenecklaw01_PlaneGaps.j0 k l0 l1 a2 a3 t104 bt111.1 true))) = some r := H
  have A7 := Aside0.mk A70
  clear A70
  replace H := Option.bind_eq_some_iff.mp H
  obtain ⟨⟨t111, t114⟩, A80, H⟩ := H
  replace H : (if t107 = 0 then (goosenecklaw01_PlaneGaps.j0 k l0 l1 a2 a3 t104 t111 (t114 != 0)) else (goosenecklaw01_PlaneGaps.j0 k l0 l1 a2 a3 t104 t111 true)) = some r := H
  have A8 := Aside0.mk A80
  clear A80
  have HC9 := Aside0.mk H
  clear H
  go_enter Try.func13, Try.ntmps13
  go_upto_region 3 with (first | ((with_reducible refine gate_callee (f := 45) rfl ?_); refine goesL_ (some 25) rfl rfl Try.func45 (by kernel_rfl) rfl #[.slice A0 l0.length c0, .int .i64 8] rfl (by (try simp only [List.map_toArray, List.map_cons, List.map_nil]); first | done | rfl | (simp only [List.length_drop, List.length_take]; rfl)) ?_; (with_reducible refine (goosenecklaw01_few.calls k _ _ l0 8 t101 _ ?side1 ?side2 A5.out).mono ?_); (case side1 => repeat (first | exact HR0.out | (with_reducible refine Kd.C_alloc ?_ _) | (with_reducible refine Kd.C_drewN ?_ _) | (with_reducible refine Kd.C_drew ?_))); (case side2 => exact HC0.out); rintro e w10 ⟨v102, rfl, ho0, hb⟩; refine ⟨_, rfl, ?_⟩; have n0_ := Aside0.mk (Kd.R_lower ho0 (below_size (by repeat (first | (with_reducible first | exact HB.out | apply below_alloc | apply pw_below_drewN | apply below_drew1) | exact HB.out)))); have n1_ := Aside0.mk (below_step (by repeat (first | (with_reducible first | exact HB.out | apply below_alloc | apply pw_below_drewN | apply below_drew1) | exact HB.out)) hb); clear HB; have HO103 := n0_; have HB := n1_; clear n0_ n1_; (try clear hb); (try clear hb2); (try clear hk); (try clear hi); (try clear ho0); obtain ⟨Ao11, co11, eo11⟩ := Kd.R_slice HO103.out; subst eo11) | ((with_reducible refine gate_callee (f := 46) rfl ?_); refine goesL_ (some 26) rfl rfl Try.func46 (by kernel_rfl) rfl #[.slice Ao11 t101.length co11] rfl (by (try simp only [List.map_toArray, List.map_cons, List.map_nil]); first | done | rfl | (simp only [List.length_drop, List.length_take]; rfl)) ?_; (with_reducible refine (plane_Hull.calls k (fun k_ => some k_ = (.slice Ao11 t101.length co11 : Value).ownBlock) _ _ t101 t104 t107 _ ?side1 A6.out).mono ?_); (case side1 => exact Kd.R_V (Kd.R_tight rfl (HO103.out))); rintro e w12 ⟨v105, rfl, ho0, hb⟩; refine ⟨_, rfl, ?_⟩; have n0_ := Aside0.mk (Kd.R_elder' (by (with_reducible repeat (first | apply Kd.R_alloc | apply Kd.R_drewN | apply Kd.R_drew)); exact HO103.out) (Kd.R_base ho0) hb); have n1_ := Aside0.mk (Kd.R_lower (Kd.R_new' (Kd.R_mono (ok' := fun k_ => True) ho0 (fun _ hk_ => trivial)) (Kd.R_lt (by (with_reducible repeat (first | apply Kd.R_alloc | apply Kd.R_drewN | apply Kd.R_drew)); exact HO103.out))) (below_size (by repeat (first | (with_reducible first | exact HB.out | apply below_alloc | apply pw_below_drewN | apply below_drew1) | exact HB.out)))); have n2_ := Aside0.mk (below_step (by repeat (first | (with_reducible first | exact HB.out | apply below_alloc | apply pw_below_drewN | apply below_drew1) | exact HB.out)) hb); clear HO103; clear HB; have HO103 := n0_; have HO106 := n1_; have HB := n2_; clear n0_ n1_ n2_; (try clear hb); (try clear hb2); (try clear hk); (try clear hi); (try clear ho0)) | ((with_reducible refine gate_callee (f := 45) rfl ?_); refine goesL_ (some 31) rfl rfl Try.func45 (by kernel_rfl) rfl #[.slice A1 l1.length c1, .int .i64 8] rfl (by (try simp only [List.map_toArray, List.map_cons, List.map_nil]); first | done | rfl | (simp only [List.length_drop, List.length_take]; rfl)) ?_; (with_reducible refine (goosenecklaw01_few.calls k _ _ l1 8 t108 _ ?side1 ?side2 A7.out).mono ?_); (case side1 => repeat (first | exact (Kd.C_below HR1.out HB.out) | (with_reducible refine Kd.C_alloc ?_ _) | (with_reducible refine Kd.C_drewN ?_ _) | (with_reducible refine Kd.C_drew ?_))); (case side2 => exact HC1.out); rintro e w13 ⟨v109, rfl, ho0, hb⟩; refine ⟨_, rfl, ?_⟩; have n0_ := Aside0.mk (Kd.R_elder' (by (with_reducible repeat (first | apply Kd.R_alloc | apply Kd.R_drewN | apply Kd.R_drew)); exact HO103.out) (Kd.R_base ho0) hb); have n1_ := Aside0.mk (Kd.R_elder' (by (with_reducible repeat (first | apply Kd.R_alloc | apply Kd.R_drewN | apply Kd.R_drew)); exact HO106.out) (Kd.R_base ho0) hb); have n2_ := Aside0.mk (Kd.R_lower (Kd.R_new' (Kd.R_new' ho0 (Kd.R_lt (by (with_reducible repeat (first | apply Kd.R_alloc | apply Kd.R_drewN | apply Kd.R_drew)); exact HO103.out))) (Kd.R_lt (by (with_reducible repeat (first | apply Kd.R_alloc | apply Kd.R_drewN | apply Kd.R_drew)); exact HO106.out))) (below_size (by repeat (first | (with_reducible first | exact HB.out | apply below_alloc | apply pw_below_drewN | apply below_drew1) | exact HB.out)))); have n3_ := Aside0.mk (below_step (by repeat (first | (with_reducible first | exact HB.out | apply below_alloc | apply pw_below_drewN | apply below_drew1) | exact HB.out)) hb); clear HO103; clear HO106; clear HB; have HO103 := n0_; have HO106 := n1_; have HO110 := n2_; have HB := n3_; clear n0_ n1_ n2_ n3_; (try clear hb); (try clear hb2); (try clear hk); (try clear hi); (try clear ho0); obtain ⟨Ao14, co14, eo14⟩ := Kd.R_slice HO110.out; subst eo14) | ((with_reducible refine gate_callee (f := 46) rfl ?_); refine goesL_ (some 32) rfl rfl Try.func46 (by kernel_rfl) rfl #[.slice Ao14 t108.length co14] rfl (by (try simp only [List.map_toArray, List.map_cons, List.map_nil]); first | done | rfl | (simp only [List.length_drop, List.length_take]; rfl)) ?_; (with_reducible refine (plane_Hull.calls k (fun k_ => some k_ = (.slice Ao14 t108.length co14 : Value).ownBlock) _ _ t108 t111 t114 _ ?side1 A8.out).mono ?_); (case side1 => exact Kd.R_V (Kd.R_tight rfl (HO110.out))); rintro e w15 ⟨v112, rfl, ho0, hb⟩; refine ⟨_, rfl, ?_⟩; have n0_ := Aside0.mk (Kd.R_elder' (by (with_reducible repeat (first | apply Kd.R_alloc | apply Kd.R_drewN | apply Kd.R_drew)); exact HO103.out) (Kd.R_base ho0) hb); have n1_ := Aside0.mk (Kd.R_elder' (by (with_reducible repeat (first | apply Kd.R_alloc | apply Kd.R_drewN | apply Kd.R_drew)); exact HO106.out) (Kd.R_base ho0) hb); have n2_ := Aside0.mk (Kd.R_elder' (by (with_reducible repeat (first | apply Kd.R_alloc | apply Kd.R_drewN | apply Kd.R_drew)); exact HO110.out) (Kd.R_base ho0) hb); have n3_ := Aside0.mk (Kd.R_lower (Kd.R_new' (Kd.R_new' (Kd.R_new' (Kd.R_mono (ok' := fun k_ => True) ho0 (fun _ hk_ => trivial)) (Kd.R_lt (by (with_reducible repeat (first | apply Kd.R_alloc | apply Kd.R_drewN | apply Kd.R_drew)); exact HO103.out))) (Kd.R_lt (by (with_reducible repeat (first | apply Kd.R_alloc | apply Kd.R_drewN | apply Kd.R_drew)); exact HO106.out))) (Kd.R_lt (by (with_reducible repeat (first | apply Kd.R_alloc | apply Kd.R_drewN | apply Kd.R_drew)); exact HO110.out))) (below_size (by repeat (first | (with_reducible first | exact HB.out | apply below_alloc | apply pw_below_drewN | apply below_drew1) | exact HB.out)))); have n4_ := Aside0.mk (below_step (by repeat (first | (with_reducible first | exact HB.out | apply below_alloc | apply pw_below_drewN | apply below_drew1) | exact HB.out)) hb); clear HO103; clear HO106; clear HO110; clear HB; have HO103 := n0_; have HO106 := n1_; have HO110 := n2_; have HO113 := n3_; have HB := n4_; clear n0_ n1_ n2_ n3_ n4_; (try clear hb); (try clear hb2); (try clear hk); (try clear hi); (try clear ho0)))
  (try simp only [Act.put, List.setIfInBounds_toArray, List.set_cons_zero, List.set_cons_succ])
  go_cut [40] (fun v40 wc => ∃ (kq : Nat) (x40_8 : Bool), v40 = .bool x40_8 ∧ Aside0 (goosenecklaw01_PlaneGaps.j0 kq l0 l1 a2 a3 t104 t111 x40_8 = some r) ∧ Aside0 (kq ≤ k) ∧ Aside0 (Kd.R k23 23 wc w.heap.size (fun k_ => some k_ ≠ (v112 : Value).ownBlock) v105 t104) ∧ Aside0 (Kd.R k23 23 wc w.heap.size (fun k_ => some k_ ≠ (v105 : Value).ownBlock) v112 t111) ∧ Aside0 (Below w.heap.size w wc))
  case first =>
    have H := HC9.out
    clear HC9
    by_cases c16 : t107 = 0
    · rw [if_pos c16] at H
      have c16b0 : (t107 == 0) = true := beq_iff_eq.mpr c16
      have c16b1 : (t107 != 0) = false := bne_eq_false_iff_eq.mpr c16
      clear c16
      (first | rw [c16b0] | (simp only [i64_w, i32_w]; rw [c16b0]) | skip)
      have H' := Aside0.mk H
      clear H
      go_wp2
      go_meet
      case rel => exact ⟨_, ((t114 != 0)), (by first | rfl | (simp; done) | (simp [*]; done)), H', ⟨by first | omega | exact Nat.le_refl _⟩, ⟨by (with_reducible repeat (first | apply Kd.R_alloc | apply Kd.R_drewN | apply Kd.R_drew)); exact Kd.R_mono HO106.out (fun _ hk => hk.2)⟩, ⟨by (with_reducible repeat (first | apply Kd.R_alloc | apply Kd.R_drewN | apply Kd.R_drew)); exact Kd.R_mono HO113.out (fun _ hk => hk.1.2)⟩, ⟨by repeat (first | (with_reducible first | exact HB.out | apply below_alloc | apply pw_below_drewN | apply below_drew1) | exact HB.out)⟩⟩
    · rw [if_neg c16] at H
      have c16b0 : (t107 == 0) = false := beq_eq_false_iff_ne.mpr c16
      have c16b1 : (t107 != 0) = true := bne_iff_ne.mpr c16
      (first | rw [c16b0] | (simp only [i64_w, i32_w]; rw [c16b0]) | skip)
      have H' := Aside0.mk H
      clear H
      go_wp2
      go_meet
      case rel => exact ⟨_, (true), (by first | rfl | (simp; done) | (simp [*]; done)), H', ⟨by first | omega | exact Nat.le_refl _⟩, ⟨by (with_reducible repeat (first | apply Kd.R_alloc | apply Kd.R_drewN | apply Kd.R_drew)); exact Kd.R_mono HO106.out (fun _ hk => hk.2)⟩, ⟨by (with_reducible repeat (first | apply Kd.R_alloc | apply Kd.R_drewN | apply Kd.R_drew)); exact Kd.R_mono HO113.out (fun _ hk => hk.1.2)⟩, ⟨by repeat (first | (with_reducible first | exact HB.out | apply below_alloc | apply pw_below_drewN | apply below_drew1) | exact HB.out)⟩⟩
  case rest =>
    clear HC9
    try clear c1
    try clear p2
    try clear c4
    try clear c13
    try clear c16
    try clear c16b0
    try clear c16b1
    obtain ⟨kq, x40_8, rfl, HA, HJ8, HO_9, HO_11, HB⟩ := hcut
    cases kq with
    | zero => exact absurd HA.out (by simp [goosenecklaw01_PlaneGaps.j0])
    | succ kj8 =>
      have H := HA.out
      clear HA
      simp only [goosenecklaw01_PlaneGaps.j0] at H
      by_cases c17 : x40_8 = true
      · subst c17
        have H1 : (if (l0.length : Int) = 0 then ((goosenecklaw01_works.f kj8).bind fun t115 => (some t115)) else (if (l1.length : Int) = 0 then ((goosenecklaw01_works.f kj8).bind fun t116 => (some t116)) else (some false))) = some r := by rw [if_pos rfl] at H; exact H
        clear H
        have H := H1
        clear H1
        by_cases c18 : (l0.length : Int) = 0
        · rw [if_pos c18] at H
          have c18b0 : ((l0.length : Int) == 0) = true := beq_iff_eq.mpr c18
          have c18b1 : ((l0.length : Int) != 0) = false := bne_eq_false_iff_eq.mpr c18
          clear c18
          replace H := Option.bind_eq_some_iff.mp H
          obtain ⟨t115, A190, H⟩ := H
          replace H : (some t115) = some r := H
          have A19 := Aside0.mk A190
          clear A190
          obtain rfl := Option.some.inj H
          go_wp2_with (first | (go_at_call 19; (with_reducible refine (goosenecklaw01_works.calls kj8  t115 _ A19.out).mono ?_); rintro e w20 ⟨rfl, hb⟩; have n0_ := Aside0.mk (Kd.R_below (by (with_reducible repeat (first | apply Kd.R_alloc | apply Kd.R_drewN | apply Kd.R_drew)); exact HO_9.out) hb); have n1_ := Aside0.mk (Kd.R_below (by (with_reducible repeat (first | apply Kd.R_alloc | apply Kd.R_drewN | apply Kd.R_drew)); exact HO_11.out) hb); have n2_ := Aside0.mk (below_step (by repeat (first | (with_reducible first | exact HB.out | apply below_alloc | apply pw_below_drewN | apply below_drew1) | exact HB.out)) hb); clear HO_9; clear HO_11; clear HB; have HO_9 := n0_; have HO_11 := n1_; have HB := n2_; clear n0_ n1_ n2_; (try clear hb); (try clear hb2); (try clear hk); (try clear hi)))
          go_ret
          exact ⟨by first | rfl | (simp [errW_none, errW_some] <;> rfl) | (simp [*, errW_none, errW_some] <;> rfl), by repeat (first | (with_reducible first | exact HB.out | apply below_alloc | apply pw_below_drewN | apply below_drew1) | exact HB.out)⟩
        · rw [if_neg c18] at H
          have c18b0 : ((l0.length : Int) == 0) = false := beq_eq_false_iff_ne.mpr c18
          have c18b1 : ((l0.length : Int) != 0) = true := bne_iff_ne.mpr c18
          have c18b2 : ¬ (l0 = []) := fun h_ => c18 (by rw [h_]; rfl)
          by_cases c21 : (l1.length : Int) = 0
          · rw [if_pos c21] at H
            have c21b0 : ((l1.length : Int) == 0) = true := beq_iff_eq.mpr c21
            have c21b1 : ((l1.length : Int) != 0) = false := bne_eq_false_iff_eq.mpr c21
            clear c21
            replace H := Option.bind_eq_some_iff.mp H
            obtain ⟨t116, A220, H⟩ := H
            replace H : (some t116) = some r := H
            have A22 := Aside0.mk A220
            clear A220
            obtain rfl := Option.some.inj H
            go_wp2_with (first | (go_at_call 19; (with_reducible refine (goosenecklaw01_works.calls kj8  t116 _ A22.out).mono ?_); rintro e w23 ⟨rfl, hb⟩; have n0_ := Aside0.mk (Kd.R_below (by (with_reducible repeat (first | apply Kd.R_alloc | apply Kd.R_drewN | apply Kd.R_drew)); exact HO_9.out) hb); have n1_ := Aside0.mk (Kd.R_below (by (with_reducible repeat (first | apply Kd.R_alloc | apply Kd.R_drewN | apply Kd.R_drew)); exact HO_11.out) hb); have n2_ := Aside0.mk (below_step (by repeat (first | (with_reducible first | exact HB.out | apply below_alloc | apply pw_below_drewN | apply below_drew1) | exact HB.out)) hb); clear HO_9; clear HO_11; clear HB; have HO_9 := n0_; have HO_11 := n1_; have HB := n2_; clear n0_ n1_ n2_; (try clear hb); (try clear hb2); (try clear hk); (try clear hi)))
            go_ret
            exact ⟨by first | rfl | (simp [errW_none, errW_some] <;> rfl) | (simp [*, errW_none, errW_some] <;> rfl), by repeat (first | (with_reducible first | exact HB.out | apply below_alloc | apply pw_below_drewN | apply below_drew1) | exact HB.out)⟩
          · rw [if_neg c21] at H
            have c21b0 : ((l1.length : Int) == 0) = false := beq_eq_false_iff_ne.mpr c21
            have c21b1 : ((l1.length : Int) != 0) = true := bne_iff_ne.mpr c21
            have c21b2 : ¬ (l1 = []) := fun h_ => c21 (by rw [h_]; rfl)
            rw [hr_.out] at H
            exact absurd H (by simp)
      · replace c17 := Bool.eq_false_iff.mpr c17
        subst c17
        have H1 : ((plane_Gap.f kj8 t104 t111).bind fun bt117 => (if bt117.2 = 0 then (if bt117.1 < 0 then (goosenecklaw01_PlaneGaps.j1 kj8 a2 a3 t104 t111 bt117.1 true) else (goosenecklaw01_PlaneGaps.j1 kj8 a2 a3 t104 t111 bt117.1 (decide (bt117.1 > 1000)))) else (goosenecklaw01_PlaneGaps.j1 kj8 a2 a3 t104 t111 bt117.1 true))) = some r := by rw [if_neg (show ¬ (false = true) by decide)] at H; exact H
        clear H
        have H := H1
        clear H1
        replace H := Option.bind_eq_some_iff.mp H
        obtain ⟨⟨t117, t118⟩, A240, H⟩ := H
        replace H : (if t118 = 0 then (if t117 < 0 then (goosenecklaw01_PlaneGaps.j1 kj8 a2 a3 t104 t111 t117 true) else (goosenecklaw01_PlaneGaps.j1 kj8 a2 a3 t104 t111 t117 (decide (t117 > 1000)))) else (goosenecklaw01_PlaneGaps.j1 kj8 a2 a3 t104 t111 t117 true)) = some r := H
        have A24 := Aside0.mk A240
        clear A240
        have HC25 := Aside0.mk H
        clear H
        obtain ⟨Ao26, co26, eo26⟩ := Kd.R_slice HO_9.out
        subst eo26
        obtain ⟨Ao27, co27, eo27⟩ := Kd.R_slice HO_11.out
        subst eo27
        go_upto_region 6 with (first | ((with_reducible refine gate_callee (f := 60) rfl ?_); refine goesL_ (some 55) rfl rfl Try.func60 (by kernel_rfl) rfl #[.slice Ao26 t104.length co26, .slice Ao27 t111.length co27] rfl (by (try simp only [List.map_toArray, List.map_cons, List.map_nil]); first | done | rfl | (simp only [List.length_drop, List.length_take]; rfl)) ?_; (with_reducible refine (plane_Gap.calls kj8 (fun k_ => some k_ = (.slice Ao26 t104.length co26 : Value).ownBlock) _ _ t104 (fun k_ => some k_ = (.slice Ao27 t111.length co27 : Value).ownBlock) _ _ t111 t117 t118 _ ?side1 ?side2 A24.out).mono ?_); (case side1 => exact Kd.R_V (Kd.R_tight rfl (HO_9.out))); (case side2 => exact Kd.R_V (Kd.R_tight rfl (HO_11.out))); rintro e w28 ⟨rfl, hb⟩; refine ⟨_, rfl, ?_⟩; have n0_ := Aside0.mk (Kd.R_below (by (with_reducible repeat (first | apply Kd.R_alloc | apply Kd.R_drewN | apply Kd.R_drew)); exact HO_9.out) hb); have n1_ := Aside0.mk (Kd.R_below (by (with_reducible repeat (first | apply Kd.R_alloc | apply Kd.R_drewN | apply Kd.R_drew)); exact HO_11.out) hb); have n2_ := Aside0.mk (below_step (by repeat (first | (with_reducible first | exact HB.out | apply below_alloc | apply pw_below_drewN | apply below_drew1) | exact HB.out)) hb); clear HO_9; clear HO_11; clear HB; have HO_9 := n0_; have HO_11 := n1_; have HB := n2_; clear n0_ n1_ n2_; (try clear hb); (try clear hb2); (try clear hk); (try clear hi)))
        (try simp only [Act.put, List.setIfInBounds_toArray, List.set_cons_zero, List.set_cons_succ])
        go_cut [67] (fun v67 wc => ∃ (kq : Nat) (x67_24 : Bool), v67 = .bool x67_24 ∧ Aside0 (goosenecklaw01_PlaneGaps.j1 kq a2 a3 t104 t111 t117 x67_24 = some r) ∧ Aside0 (kq ≤ kj8) ∧ Aside0 (Kd.R k23 23 wc w.heap.size (fun k_ => some k_ ≠ ((.slice Ao27 t111.length co27) : Value).ownBlock) (.slice Ao26 t104.length co26) t104) ∧ Aside0 (Kd.R k23 23 wc w.heap.size (fun k_ => some k_ ≠ ((.slice Ao26 t104.length co26) : Value).ownBlock) (.slice Ao27 t111.length co27) t111) ∧ Aside0 (Below w.heap.size w wc))
        case first =>
          have H := HC25.out
          clear HC25
          by_cases c29 : t118 = 0
          · rw [if_pos c29] at H
            have c29b0 : (t118 == 0) = true := beq_iff_eq.mpr c29
            have c29b1 : (t118 != 0) = false := bne_eq_false_iff_eq.mpr c29
            clear c29
            (first | rw [c29b0] | (simp only [i64_w, i32_w]; rw [c29b0]) | skip)
            by_cases c30 : t117 < 0
            · rw [if_pos c30] at H
              have c30b0 : decide (t117 < 0) = true := decide_eq_true c30
              clear c30
              have H' := Aside0.mk H
              clear H
              go_wp2
              go_meet
              case rel => exact ⟨_, (true), (by first | rfl | (simp; done) | (simp [*]; done)), H', ⟨by have := HJ8.out; first | omega | exact Nat.le_refl _⟩, ⟨by (with_reducible repeat (first | apply Kd.R_alloc | apply Kd.R_drewN | apply Kd.R_drew)); exact HO_9.out⟩, ⟨by (with_reducible repeat (first | apply Kd.R_alloc | apply Kd.R_drewN | apply Kd.R_drew)); exact HO_11.out⟩, ⟨by repeat (first | (with_reducible first | exact HB.out | apply below_alloc | apply pw_below_drewN | apply below_drew1) | exact HB.out)⟩⟩
            · rw [if_neg c30] at H
              have c30b0 : decide (t117 < 0) = false := decide_eq_false c30
              clear c30
              have H' := Aside0.mk H
              clear H
              go_wp2
              go_meet
              case rel => exact ⟨_, (decide (t117 > 1000)), (by first | rfl | (simp; done) | (simp [*]; done)), H', ⟨by have := HJ8.out; first | omega | exact Nat.le_refl _⟩, ⟨by (with_reducible repeat (first | apply Kd.R_alloc | apply Kd.R_drewN | apply Kd.R_drew)); exact HO_9.out⟩, ⟨by (with_reducible repeat (first | apply Kd.R_alloc | apply Kd.R_drewN | apply Kd.R_drew)); exact HO_11.out⟩, ⟨by repeat (first | (with_reducible first | exact HB.out | apply below_alloc | apply pw_below_drewN | apply below_drew1) | exact HB.out)⟩⟩
          · rw [if_neg c29] at H
            have c29b0 : (t118 == 0) = false := beq_eq_false_iff_ne.mpr c29
            have c29b1 : (t118 != 0) = true := bne_iff_ne.mpr c29
            (first | rw [c29b0] | (simp only [i64_w, i32_w]; rw [c29b0]) | skip)
            have H' := Aside0.mk H
            clear H
            go_wp2
            go_meet
            case rel => exact ⟨_, (true), (by first | rfl | (simp; done) | (simp [*]; done)), H', ⟨by have := HJ8.out; first | omega | exact Nat.le_refl _⟩, ⟨by (with_reducible repeat (first | apply Kd.R_alloc | apply Kd.R_drewN | apply Kd.R_drew)); exact HO_9.out⟩, ⟨by (with_reducible repeat (first | apply Kd.R_alloc | apply Kd.R_drewN | apply Kd.R_drew)); exact HO_11.out⟩, ⟨by repeat (first | (with_reducible first | exact HB.out | apply below_alloc | apply pw_below_drewN | apply below_drew1) | exact HB.out)⟩⟩
        case rest =>
          clear HC25
          try clear c1
          try clear c2
          try clear p2
          try clear c3
          try clear c4
          try clear c6
          try clear c13
          try clear c16
          try clear c16b0
          try clear c16b1
          try clear c17
          try clear c18
          try clear c18b0
          try clear c18b1
          try clear c18b2
          try clear c21
          try clear c21b0
          try clear c21b1
          try clear c21b2
          try clear c29
          try clear c29b0
          try clear c29b1
          try clear c30
          try clear c30b0
          try clear p2
          obtain ⟨kq, x67_24, rfl, HA, HJ24, HO_9, HO_11, HB⟩ := hcut
          cases kq with
          | zero => exact absurd HA.out (by simp [goosenecklaw01_PlaneGaps.j1])
          | succ kj24 =>
            have H := HA.out
            clear HA
            simp only [goosenecklaw01_PlaneGaps.j1] at H
            by_cases c31 : x67_24 = true
            · subst c31
              have H1 : (some false) = some r := by rw [if_pos rfl] at H; exact H
              clear H
              have H := H1
              clear H1
              rw [hr_.out] at H
              exact absurd H (by simp)
            · replace c31 := Bool.eq_false_iff.mpr c31
              subst c31
              have H1 : (goosenecklaw01_PlaneGaps.l0 kj24 a2 a3 t104 t111 t117 (mx 0 (wrap64 (t117 - 2)))) = some r := by rw [if_neg (show ¬ (false = true) by decide)] at H; exact H
              clear H
              have H := H1
              clear H1
              obtain ⟨ji32, hji32⟩ : ∃ j_ : Int, (mx 0 (wrap64 (t117 - 2))) = j_ := ⟨_, rfl⟩
              replace H : (goosenecklaw01_PlaneGaps.l0 kj24 a2 a3 t104 t111 t117 ji32) = some r := by first | (rw [hji32] at H; exact H) | (simp only [hji32] at H ⊢; exact H)
              have hji32_ : (if 0 < (wrap64 (t117 - 2)) then (wrap64 (t117 - 2)) else 0) = ji32 := hji32
              have H' := Aside0.mk H
              clear H
              go_wp2
              go_loopg [14] kj24 (fun kq v14 w' => ∃ (x14_3 : Int), v14 = .int .i64 x14_3 ∧ Aside0 (goosenecklaw01_PlaneGaps.l0 kq a2 a3 t104 t111 t117 x14_3 = some r) ∧ Aside0 (kq ≤ kj24) ∧ Aside0 (Kd.R k23 23 w' w.heap.size (fun k_ => some k_ ≠ ((.slice Ao27 t111.length co27) : Value).ownBlock) (.slice Ao26 t104.length co26) t104) ∧ Aside0 (Kd.R k23 23 w' w.heap.size (fun k_ => some k_ ≠ ((.slice Ao26 t104.length co26) : Value).ownBlock) (.slice Ao27 t111.length co27) t111) ∧ Aside0 (Below w.heap.size w w'))
              case atStart => exact ⟨(ji32), (by first | rfl | (simp; done) | (simp only [← hji32] <;> (first | rfl | simp)) | (simp [*]; done)), H', ⟨Nat.le_refl _⟩, ⟨by (with_reducible repeat (first | apply Kd.R_alloc | apply Kd.R_drewN | apply Kd.R_drew)); exact HO_9.out⟩, ⟨by (with_reducible repeat (first | apply Kd.R_alloc | apply Kd.R_drewN | apply Kd.R_drew)); exact HO_11.out⟩, ⟨by repeat (first | (with_reducible first | exact HB.out | apply below_alloc | apply pw_below_drewN | apply below_drew1) | exact HB.out)⟩⟩
              case round =>
                clear H'
                try clear c1
                try clear c2
                try clear p2
                try clear c3
                try clear c4
                try clear c6
                try clear p6
                try clear c13
                try clear c16
                try clear c16b0
                try clear c16b1
                try clear c17
                try clear c18
                try clear c18b0
                try clear c18b1
                try clear c18b2
                try clear c21
                try clear c21b0
                try clear c21b1
                try clear c21b2
                try clear c29
                try clear c29b0
                try clear c29b1
                try clear c30
                try clear c30b0
                try clear c31
                try clear p2
                obtain ⟨x14_3, rfl, HA, HK3, HO_9, HO_11, HB⟩ := hrel
                cases gk with
                | zero => exact absurd HA.out (by simp [goosenecklaw01_PlaneGaps.l0])
                | succ k3 =>
                  have H := HA.out
                  clear HA
                  simp only [goosenecklaw01_PlaneGaps.l0] at H
                  by_cases c33 : x14_3 ≤ (wrap64 (t117 + 1))
                  · rw [if_pos c33] at H
                    have c33b0 : decide (x14_3 ≤ (wrap64 (t117 + 1))) = true := decide_eq_true c33
                    clear c33
                    replace H := Option.bind_eq_some_iff.mp H
                    obtain ⟨⟨t119, t122⟩, A340, H⟩ := H
                    replace H : ((plane_Meet.f t119 t111).bind fun bt123 => (if t122 = 0 then (if bt123.2 = 0 then (if (bt123.1 != (decide (x14_3 ≥ t117))) = true then (some false) else (goosenecklaw01_PlaneGaps.l0 k3 a2 a3 t104 t111 t117 (wrap64 (x14_3 + 1)))) else (some false)) else (some false))) = some r := H
                    have A34 := Aside0.mk A340
                    clear A340
                    replace H := Option.bind_eq_some_iff.mp H
                    obtain ⟨⟨t123, t124⟩, A350, H⟩ := H
                    replace H : (if t122 = 0 then (if t124 = 0 then (if (t123 != (decide (x14_3 ≥ t117))) = true then (some false) else (goosenecklaw01_PlaneGaps.l0 k3 a2 a3 t104 t111 t117 (wrap64 (x14_3 + 1)))) else (some false)) else (some false)) = some r := H
                    have A35 := Aside0.mk A350
                    clear A350
                    by_cases c36 : t122 = 0
                    · rw [if_pos c36] at H
                      have c36b0 : (t122 == 0) = true := beq_iff_eq.mpr c36
                      have c36b1 : (t122 != 0) = false := bne_eq_false_iff_eq.mpr c36
                      clear c36
                      by_cases c37 : t124 = 0
                      · rw [if_pos c37] at H
                        have c37b0 : (t124 == 0) = true := beq_iff_eq.mpr c37
                        have c37b1 : (t124 != 0) = false := bne_eq_false_iff_eq.mpr c37
                        clear c37
                        by_cases c38 : (t123 != (decide (x14_3 ≥ t117))) = true
                        · rw [if_pos c38] at H
                          have c38b0 : (t123 != (decide (x14_3 ≥ t117))) = true := c38
                          (try (have c38b1 : decide (t123 = (decide (x14_3 ≥ t117))) = false := by simpa using c38))
                          (try (have c38b2 : (t123 == (decide (x14_3 ≥ t117))) = false := by simpa using c38))
                          (try (have c38b3 : ¬ (t123 = (decide (x14_3 ≥ t117))) := by simpa using c38))
                          clear c38
                          rw [hr_.out] at H
                          exact absurd H (by simp)
                        · rw [if_neg c38] at H
                          have c38b0 : (t123 != (decide (x14_3 ≥ t117))) = false := by simpa using c38
                          (try (have c38b1 : decide (t123 = (decide (x14_3 ≥ t117))) = true := by simpa using c38))
                          (try (have c38b2 : (t123 == (decide (x14_3 ≥ t117))) = true := by simpa using c38))
                          clear c38
                          have H' := Aside0.mk H
                          clear H
                          go_wp2_with (first | ((with_reducible refine gate_callee (f := 56) rfl ?_); refine goesL_ (some 80) rfl rfl Try.func56 (by kernel_rfl) rfl #[.slice Ao26 t104.length co26, .int .i64 x14_3] rfl (by (try simp only [List.map_toArray, List.map_cons, List.map_nil]); first | done | rfl | (simp only [List.length_drop, List.length_take]; rfl)) ?_; (with_reducible refine (plane_Grow.calls k3 (fun k_ => some k_ = (.slice Ao26 t104.length co26 : Value).ownBlock) _ _ t104 x14_3 t119 t122 _ ?side1 A34.out).mono ?_); (case side1 => exact Kd.R_V (Kd.R_tight rfl (HO_9.out))); rintro e w39 ⟨v120, rfl, ho0, hb⟩; refine ⟨_, rfl, ?_⟩; have n0_ := Aside0.mk (Kd.R_elder' (by (with_reducible repeat (first | apply Kd.R_alloc | apply Kd.R_drewN | apply Kd.R_drew)); exact HO_9.out) (Kd.R_base ho0) hb); have n1_ := Aside0.mk (Kd.R_elder' (by (with_reducible repeat (first | apply Kd.R_alloc | apply Kd.R_drewN | apply Kd.R_drew)); exact HO_11.out) (Kd.R_base ho0) hb); have n2_ := Aside0.mk (Kd.R_lower (Kd.R_new' (Kd.R_new' (Kd.R_mono (ok' := fun k_ => True) ho0 (fun _ hk_ => trivial)) (Kd.R_lt (by (with_reducible repeat (first | apply Kd.R_alloc | apply Kd.R_drewN | apply Kd.R_drew)); exact HO_9.out))) (Kd.R_lt (by (with_reducible repeat (first | apply Kd.R_alloc | apply Kd.R_drewN | apply Kd.R_drew)); exact HO_11.out))) (below_size (by repeat (first | (with_reducible first | exact HB.out | apply below_alloc | apply pw_below_drewN | apply below_drew1) | exact HB.out)))); have n3_ := Aside0.mk (below_step (by repeat (first | (with_reducible first | exact HB.out | apply below_alloc | apply pw_below_drewN | apply below_drew1) | exact HB.out)) hb); clear HO_9; clear HO_11; clear HB; have HO_9 := n0_; have HO_11 := n1_; have HO121 := n2_; have HB := n3_; clear n0_ n1_ n2_ n3_; (try clear hb); (try clear hb2); (try clear hk); (try clear hi); (try clear ho0); obtain ⟨Ao40, co40, eo40⟩ := Kd.R_slice HO121.out; subst eo40) | ((with_reducible refine gate_callee (f := 58) rfl ?_); refine goesL_ (some 86) rfl rfl Try.func58 (by kernel_rfl) rfl #[.slice Ao40 t119.length co40, .slice Ao27 t111.length co27] rfl (by (try simp only [List.map_toArray, List.map_cons, List.map_nil]); first | done | rfl | (simp only [List.length_drop, List.length_take]; rfl)) ?_; (with_reducible refine (plane_Meet.calls (fun k_ => some k_ = (.slice Ao40 t119.length co40 : Value).ownBlock) _ _ t119 (fun k_ => some k_ = (.slice Ao27 t111.length co27 : Value).ownBlock) _ _ t111 t123 t124 _ ?side1 ?side2 A35.out).mono ?_); (case side1 => exact Kd.R_V (Kd.R_tight rfl (HO121.out))); (case side2 => exact Kd.R_V (Kd.R_tight rfl (HO_11.out))); rintro e w41 ⟨rfl, hb⟩; refine ⟨_, rfl, ?_⟩; have n0_ := Aside0.mk (Kd.R_below (by (with_reducible repeat (first | apply Kd.R_alloc | apply Kd.R_drewN | apply Kd.R_drew)); exact HO_9.out) hb); have n1_ := Aside0.mk (Kd.R_below (by (with_reducible repeat (first | apply Kd.R_alloc | apply Kd.R_drewN | apply Kd.R_drew)); exact HO_11.out) hb); have n2_ := Aside0.mk (Kd.R_below (by (with_reducible repeat (first | apply Kd.R_alloc | apply Kd.R_drewN | apply Kd.R_drew)); exact HO121.out) hb); have n3_ := Aside0.mk (below_step (by repeat (first | (with_reducible first | exact HB.out | apply below_alloc | apply pw_below_drewN | apply below_drew1) | exact HB.out)) hb); clear HO_9; clear HO_11; clear HO121; clear HB; have HO_9 := n0_; have HO_11 := n1_; have HO121 := n2_; have HB := n3_; clear n0_ n1_ n2_ n3_; (try clear hb); (try clear hb2); (try clear hk); (try clear hi)))
                          go_roundg k3
                          case measure => have := HJ8.out; have := HJ24.out; have := HK3.out; omega
                          case rel => exact ⟨(wrap64 (x14_3 + 1)), (by first | rfl | (simp; done) | (simp [*]; done)), H', ⟨by have := HJ8.out; have := HJ24.out; have := HK3.out; omega⟩, ⟨by (with_reducible repeat (first | apply Kd.R_alloc | apply Kd.R_drewN | apply Kd.R_drew)); exact Kd.R_mono HO_9.out (fun _ hk => hk.1)⟩, ⟨by (with_reducible repeat (first | apply Kd.R_alloc | apply Kd.R_drewN | apply Kd.R_drew)); exact Kd.R_mono HO_11.out (fun _ hk => hk.1)⟩, ⟨by repeat (first | (with_reducible first | exact HB.out | apply below_alloc | apply pw_below_drewN | apply below_drew1) | exact HB.out)⟩⟩
                      · rw [if_neg c37] at H
                        have c37b0 : (t124 == 0) = false := beq_eq_false_iff_ne.mpr c37
                        have c37b1 : (t124 != 0) = true := bne_iff_ne.mpr c37
                        rw [hr_.out] at H
                        exact absurd H (by simp)
                    · rw [if_neg c36] at H
                      have c36b0 : (t122 == 0) = false := beq_eq_false_iff_ne.mpr c36
                      have c36b1 : (t122 != 0) = true := bne_iff_ne.mpr c36
                      rw [hr_.out] at H
                      exact absurd H (by simp)
                  · rw [if_neg c33] at H
                    have c33b0 : decide (x14_3 ≤ (wrap64 (t117 + 1))) = false := decide_eq_false c33
                    clear c33
                    have H' := Aside0.mk H
                    clear H
                    go_wp2
                    go_loopg [19, 20] k3 (fun kq v19 v20 w' => ∃ (x19_4 : List (S23)) (x20_4 : Int), v20 = .int .i64 x20_4 ∧ Aside0 (goosenecklaw01_PlaneGaps.l1 kq a2 a3 t104 t111 t117 x19_4 x20_4 = some r) ∧ Aside0 (kq ≤ k3) ∧ Aside0 (Kd.R k23 23 w' w.heap.size (fun k_ => some k_ ≠ ((.slice Ao27 t111.length co27) : Value).ownBlock ∧ some k_ ≠ (v19 : Value).ownBlock) (.slice Ao26 t104.length co26) t104) ∧ Aside0 (Kd.R k23 23 w' w.heap.size (fun k_ => some k_ ≠ ((.slice Ao26 t104.length co26) : Value).ownBlock ∧ some k_ ≠ (v19 : Value).ownBlock) (.slice Ao27 t111.length co27) t111) ∧ Aside0 (Kd.R k23 23 w' w.heap.size (fun k_ => some k_ ≠ ((.slice Ao26 t104.length co26) : Value).ownBlock ∧ some k_ ≠ ((.slice Ao27 t111.length co27) : Value).ownBlock) v19 x19_4) ∧ Aside0 (Below w.heap.size w w'))
                    case atStart => exact ⟨(([] : List (S23))), (0), (by first | rfl | (simp; done) | (simp [*]; done)), H', ⟨Nat.le_refl _⟩, ⟨by (with_reducible repeat (first | apply Kd.R_alloc | apply Kd.R_drewN | apply Kd.R_drew)); exact Kd.R_mono HO_9.out (fun _ hk => ⟨hk, (by simp [Value.ownBlock])⟩)⟩, ⟨by (with_reducible repeat (first | apply Kd.R_alloc | apply Kd.R_drewN | apply Kd.R_drew)); exact Kd.R_mono HO_11.out (fun _ hk => ⟨hk, (by simp [Value.ownBlock])⟩)⟩, ⟨by first | exact Kd.R_nil _ _ _ _ _ | exact Kd.N_nil _ _ _ _ _ | exact Kd.V_nil _ _ _ _ _ | exact Kd.Q_nil _ _ _ _ _ | exact Kd.S_nil _ _ _ _ _⟩, ⟨by repeat (first | (with_reducible first | exact HB.out | apply below_alloc | apply pw_below_drewN | apply below_drew1) | exact HB.out)⟩⟩
                    case round =>
                      clear H'
                      try clear c1
                      try clear c2
                      try clear p2
                      try clear c3
                      try clear c4
                      try clear c5
                      try clear c6
                      try clear p6
                      try clear c13
                      try clear c16
                      try clear c16b0
                      try clear c16b1
                      try clear c17
                      try clear c18
                      try clear c18b0
                      try clear c18b1
                      try clear c18b2
                      try clear c21
                      try clear c21b0
                      try clear c21b1
                      try clear c21b2
                      try clear c29
                      try clear c29b0
                      try clear c29b1
                      try clear c30
                      try clear c30b0
                      try clear c31
                      try clear c33
                      try clear c33b0
                      try clear c36
                      try clear c36b0
                      try clear c36b1
                      try clear c37
                      try clear c37b0
                      try clear c37b1
                      try clear c38
                      try clear c38b0
                      try clear c38b1
                      try clear c38b2
                      try clear p2
                      try clear p6
                      obtain ⟨x19_4, x20_4, rfl, HA, HK4, HO_9, HO_11, HO_19, HB⟩ := hrel
                      cases gk with
                      | zero => exact absurd HA.out (by simp [goosenecklaw01_PlaneGaps.l1])
                      | succ k4 =>
                        have H := HA.out
                        clear HA
                        simp only [goosenecklaw01_PlaneGaps.l1] at H
                        by_cases c42 : x20_4 < (t111.length : Int)
                        · rw [if_pos c42] at H
                          have c42b0 : decide (x20_4 < (t111.length : Int)) = true := decide_eq_true c42
                          clear c42
                          by_cases c43 : 0 ≤ x20_4
                          · rw [if_pos c43] at H
                            have c43b0 : decide (0 ≤ x20_4) = true := decide_eq_true c43
                            clear c43
                            by_cases c44 : x19_4.length < 8796093022208
                            · rw [if_pos c44] at H
                              have LMc44 := Aside0.mk c44
                              clear c44
                              obtain ⟨y127, hy127⟩ : ∃ y_ : List (S23), y_ = (x19_4 ++ [(⟨wrap64 (((rd_T23 t111 x20_4).f0) + (wrap64 (a2))), wrap64 (((rd_T23 t111 x20_4).f1) + (wrap64 (a3)))⟩ : S23)]) := ⟨_, rfl⟩
                              replace H : (goosenecklaw01_PlaneGaps.l1 k4 a2 a3 t104 t111 t117 y127 (wrap64 (x20_4 + 1))) = some r := by first | (rw [hy127]; with_reducible exact H) | (have H2_ := (Option.bind_some _ _).symm.trans H; rw [hy127]; with_reducible exact H2_) | (have H2_ := (Option.bind_some _ _).symm.trans H; with_reducible exact H2_) | with_reducible exact H | (rw [hy127]; exact H) | exact H
                              have Ny127 := Aside0.mk hy127
                              clear hy127
                              have H' := Aside0.mk H
                              clear H
                              try go_wp2
                              have n0_ := Aside0.mk (Kd.R_drew HO_9.out)
                              have n1_ := Aside0.mk (Kd.R_drew HO_11.out)
                              have n2_ := Aside0.mk (Kd.R_drew HO_19.out)
                              have n3_ := Aside0.mk (below_drew1 HB.out)
                              clear HO_9
                              clear HO_11
                              clear HO_19
                              clear HB
                              have HO_9 := n0_
                              have HO_11 := n1_
                              have HO_19 := n2_
                              have HB := n3_
                              clear n0_ n1_ n2_ n3_
                              have p125 : 0 ≤ (x20_4 : Int) := of_decide_eq_true (by first | (with_reducible assumption) | assumption)
                              have q125 : x20_4 < (t111.length : Int) := of_decide_eq_true (by first | (with_reducible assumption) | assumption)
                              obtain ⟨ad125, e125, hx125_0, hx125_1⟩ := at_T23 (Kd.R_reads' HO_11.out).2.2 x20_4 p125 q125
                              cases e125
                              replace p125 := eq_true p125
                              replace q125 := eq_true q125
                              have p126 : 0 ≤ (x20_4 : Int) := of_decide_eq_true (by first | (with_reducible assumption) | assumption)
                              have q126 : x20_4 < (t111.length : Int) := of_decide_eq_true (by first | (with_reducible assumption) | assumption)
                              obtain ⟨ad126, e126, hx126_0, hx126_1⟩ := at_T23 (Kd.R_reads' HO_11.out).2.2 x20_4 p126 q126
                              obtain rfl : ad125 = ad126 := (by injection e126)
                              replace p126 := eq_true p126
                              replace q126 := eq_true q126
                              refine start_ (n := 21) (S := fun w' => w'.cell? (ad125.add ((x20_4).toNat * 2)) = some (.int .i64 ((rd_T23 t111 x20_4).f0)) ∧ w'.cell? ⟨(ad125.add ((x20_4).toNat * 2)).block, (ad125.add ((x20_4).toNat * 2)).off + 1, none⟩ = some (.int .i64 ((rd_T23 t111 x20_4).f1)) ∧ w'.cell? (ad125.add ((x20_4).toNat * 2)) = some (.int .i64 ((rd_T23 t111 x20_4).f0)) ∧ w'.cell? ⟨(ad125.add ((x20_4).toNat * 2)).block, (ad125.add ((x20_4).toNat * 2)).off + 1, none⟩ = some (.int .i64 ((rd_T23 t111 x20_4).f1))) (ds := [18, 19]) #[false, false, false, false, false, false, false, false, false, false, false, false, false, false, false, false, false, false, false, false, false] (by kernel_rfl) rfl rfl ⟨hx125_0, hx125_1, hx126_0, hx126_1⟩ (fun hHeld => ?_); refine with_tabW goosenecklaw01_PlaneGaps.tab19 goosenecklaw01_PlaneGaps.bits19 (fun HT_ HW_ => ?_)
                              generalize wr.drew = w45 at HO_9 HO_11 HO_19 HB hx125_0 hx125_1 hx126_0 hx126_1 hHeld ⊢
                              refine pure_ (i := 0) (N := some 108) (v := ?_) (a' := ?_) #[true, false, false, false, false, false, false, false, false, false, false, false, false, false, false, false, false, false, false, false, false] rfl rfl (any_of HT_.out (by kernel_rfl)) (fun _ _ _ h => h) (Or.inl ⟨by rfl, ?_⟩) ?_ ?_
                              rotate_left
                              · intro w'
                                go_simp
                                with_reducible rfl
                              rotate_left
                              · simp only [Act.put, List.setIfInBounds_toArray, List.set_cons_zero, List.set_cons_succ, i64_w, i32_w]
                                rfl
                              refine pure_ (i := 1) (N := some 109) (v := ?_) (a' := ?_) #[true, true, false, false, false, false, false, false, false, false, false, false, false, false, false, false, false, false, false, false, false] rfl rfl (any_of HT_.out (by kernel_rfl)) (fun _ _ _ h => h) (Or.inl ⟨by rfl, ?_⟩) ?_ ?_
                              rotate_left
                              · intro w'
                                go_simp
                                with_reducible rfl
                              rotate_left
                              · simp only [Act.put, List.setIfInBounds_toArray, List.set_cons_zero, List.set_cons_succ, i64_w, i32_w]
                                rfl
                              refine pure_ (i := 2) (N := some 110) (v := ?_) (a' := ?_) #[true, true, true, false, false, false, false, false, false, false, false, false, false, false, false, false, false, false, false, false, false] rfl rfl (any_of HT_.out (by kernel_rfl)) (fun _ _ _ h => h) (Or.inl ⟨by rfl, ?_⟩) ?_ ?_
                              rotate_left
                              · intro w'
                                go_simp
                                with_reducible rfl
                              rotate_left
                              · simp only [Act.put, List.setIfInBounds_toArray, List.set_cons_zero, List.set_cons_succ, i64_w, i32_w]
                                rfl
                              refine pure_ (i := 3) (N := some 111) (v := ?_) (a' := ?_) #[true, true, true, true, false, false, false, false, false, false, false, false, false, false, false, false, false, false, false, false, false] rfl rfl (any_of HT_.out (by kernel_rfl)) (fun _ _ _ h => h) (Or.inl ⟨by rfl, ?_⟩) ?_ ?_
                              rotate_left
                              · intro w'
                                go_simp
                                with_reducible rfl
                              rotate_left
                              · simp only [Act.put, List.setIfInBounds_toArray, List.set_cons_zero, List.set_cons_succ, i64_w, i32_w]
                                rfl
                              refine pure_ (i := 4) (N := some 112) (v := ?_) (a' := ?_) #[true, true, true, true, true, false, false, false, false, false, false, false, false, false, false, false, false, false, false, false, false] rfl rfl (any_of HT_.out (by kernel_rfl)) (fun _ _ _ h => h) (Or.inl ⟨by rfl, ?_⟩) ?_ ?_
                              rotate_left
                              · intro w'
                                go_simp
                                with_reducible rfl
                              rotate_left
                              · simp only [Act.put, List.setIfInBounds_toArray, List.set_cons_zero, List.set_cons_succ, i64_w, i32_w]
                                rfl
                              refine pure_ (i := 6) (N := some 114) (v := ?_) (a' := ?_) #[true, true, true, true, true, false, true, false, false, false, false, false, false, false, false, false, false, false, false, false, false] rfl rfl (any_of HT_.out (by kernel_rfl)) (fun _ _ _ h => h) (Or.inl ⟨by rfl, ?_⟩) ?_ ?_
                              rotate_left
                              · intro w'
                                go_simp
                                with_reducible rfl
                              rotate_left
                              · simp only [Act.put, List.setIfInBounds_toArray, List.set_cons_zero, List.set_cons_succ, i64_w, i32_w]
                                rfl
                              refine pure_ (i := 7) (N := some 115) (v := ?_) (a' := ?_) #[true, true, true, true, true, false, true, true, false, false, false, false, false, false, false, false, false, false, false, false, false] rfl rfl (any_of HT_.out (by kernel_rfl)) (fun _ _ _ h => h) (Or.inl ⟨by rfl, ?_⟩) ?_ ?_
                              rotate_left
                              · intro w'
                                go_simp
                                with_reducible rfl
                              rotate_left
                              · simp only [Act.put, List.setIfInBounds_toArray, List.set_cons_zero, List.set_cons_succ, i64_w, i32_w]
                                rfl
                              refine pure_ (i := 9) (N := some 117) (v := ?_) (a' := ?_) #[true, true, true, true, true, false, true, true, false, true, false, false, false, false, false, false, false, false, false, false, false] rfl rfl (any_of HT_.out (by kernel_rfl)) (fun _ _ _ h => h) (Or.inl ⟨by rfl, ?_⟩) ?_ ?_
                              rotate_left
                              · intro w'
                                go_simp
                                with_reducible rfl
                              rotate_left
                              · simp only [Act.put, List.setIfInBounds_toArray, List.set_cons_zero, List.set_cons_succ, i64_w, i32_w]
                                rfl
                              refine pure_ (i := 10) (N := some 118) (v := ?_) (a' := ?_) #[true, true, true, true, true, false, true, true, false, true, true, false, false, false, false, false, false, false, false, false, false] rfl rfl (any_of HT_.out (by kernel_rfl)) (fun _ _ _ h => h) (Or.inl ⟨by rfl, ?_⟩) ?_ ?_
                              rotate_left
                              · intro w'
                                go_simp
                                with_reducible rfl
                              rotate_left
                              · simp only [Act.put, List.setIfInBounds_toArray, List.set_cons_zero, List.set_cons_succ, i64_w, i32_w]
                                rfl
                              refine pure_ (i := 11) (N := some 119) (v := ?_) (a' := ?_) #[true, true, true, true, true, false, true, true, false, true, true, true, false, false, false, false, false, false, false, false, false] rfl rfl (any_of HT_.out (by kernel_rfl)) (fun _ _ _ h => h) (Or.inl ⟨by rfl, ?_⟩) ?_ ?_
                              rotate_left
                              · intro w'
                                go_simp
                                with_reducible rfl
                              rotate_left
                              · simp only [Act.put, List.setIfInBounds_toArray, List.set_cons_zero, List.set_cons_succ, i64_w, i32_w]
                                rfl
                              refine pure_ (i := 12) (N := some 120) (v := ?_) (a' := ?_) #[true, true, true, true, true, false, true, true, false, true, true, true, true, false, false, false, false, false, false, false, false] rfl rfl (any_of HT_.out (by kernel_rfl)) (fun _ _ _ h => h) (Or.inl ⟨by rfl, ?_⟩) ?_ ?_
                              rotate_left
                              · intro w'
                                go_simp
                                with_reducible rfl
                              rotate_left
                              · simp only [Act.put, List.setIfInBounds_toArray, List.set_cons_zero, List.set_cons_succ, i64_w, i32_w]
                                rfl
                              refine pure_ (i := 14) (N := some 122) (v := ?_) (a' := ?_) #[true, true, true, true, true, false, true, true, false, true, true, true, true, false, true, false, false, false, false, false, false] rfl rfl (any_of HT_.out (by kernel_rfl)) (fun _ _ _ h => h) (Or.inl ⟨by rfl, ?_⟩) ?_ ?_
                              rotate_left
                              · intro w'
                                go_simp
                                with_reducible rfl
                              rotate_left
                              · simp only [Act.put, List.setIfInBounds_toArray, List.set_cons_zero, List.set_cons_succ, i64_w, i32_w]
                                rfl
                              refine pure_ (i := 15) (N := some 123) (v := ?_) (a' := ?_) #[true, true, true, true, true, false, true, true, false, true, true, true, true, false, true, true, false, false, false, false, false] rfl rfl (any_of HT_.out (by kernel_rfl)) (fun _ _ _ h => h) (Or.inl ⟨by rfl, ?_⟩) ?_ ?_
                              rotate_left
                              · intro w'
                                go_simp
                                with_reducible rfl
                              rotate_left
                              · simp only [Act.put, List.setIfInBounds_toArray, List.set_cons_zero, List.set_cons_succ, i64_w, i32_w]
                                rfl
                              refine take_ (i := 5) (N := some 113) (v := ?_) (a' := ?_) #[true, true, true, true, true, true, true, true, false, true, true, true, true, false, true, true, false, false, false, false, false] rfl rfl (take_ofW HT_.out HW_.out (by kernel_rfl)) (fun _ _ _ h => h) (Or.inl ⟨by rfl, ?_⟩) hHeld ?_ ?_
                              rotate_left
                              · rintro w' ⟨s0, s1, s2, s3⟩
                                go_simp
                                with_reducible rfl
                              rotate_left
                              · simp only [Act.put, List.setIfInBounds_toArray, List.set_cons_zero, List.set_cons_succ, i64_w, i32_w]
                                rfl
                              refine pure_ (i := 8) (N := some 116) (v := ?_) (a' := ?_) #[true, true, true, true, true, true, true, true, true, true, true, true, true, false, true, true, false, false, false, false, false] rfl rfl (any_of HT_.out (by kernel_rfl)) (fun _ _ _ h => h) (Or.inl ⟨by rfl, ?_⟩) ?_ ?_
                              rotate_left
                              · intro w'
                                go_simp
                                with_reducible rfl
                              rotate_left
                              · simp only [Act.put, List.setIfInBounds_toArray, List.set_cons_zero, List.set_cons_succ, i64_w, i32_w]
                                rfl
                              refine take_ (i := 13) (N := some 121) (v := ?_) (a' := ?_) #[true, true, true, true, true, true, true, true, true, true, true, true, true, true, true, true, false, false, false, false, false] rfl rfl (take_ofW HT_.out HW_.out (by kernel_rfl)) (fun _ _ _ h => h) (Or.inl ⟨by rfl, ?_⟩) hHeld ?_ ?_
                              rotate_left
                              · rintro w' ⟨s0, s1, s2, s3⟩
                                go_simp
                                with_reducible rfl
                              rotate_left
                              · simp only [Act.put, List.setIfInBounds_toArray, List.set_cons_zero, List.set_cons_succ, i64_w, i32_w]
                                rfl
                              refine pure_ (i := 16) (N := some 124) (v := ?_) (a' := ?_) #[true, true, true, true, true, true, true, true, true, true, true, true, true, true, true, true, true, false, false, false, false] rfl rfl (any_of HT_.out (by kernel_rfl)) (fun _ _ _ h => h) (Or.inl ⟨by rfl, ?_⟩) ?_ ?_
                              rotate_left
                              · intro w'
                                go_simp
                                with_reducible rfl
                              rotate_left
                              · simp only [Act.put, List.setIfInBounds_toArray, List.set_cons_zero, List.set_cons_succ, i64_w, i32_w]
                                rfl
                              refine pure_ (i := 17) (N := some 125) (v := ?_) (a' := ?_) #[true, true, true, true, true, true, true, true, true, true, true, true, true, true, true, true, true, true, false, false, false] rfl rfl (any_of HT_.out (by kernel_rfl)) (fun _ _ _ h => h) (Or.inl ⟨by rfl, ?_⟩) ?_ ?_
                              rotate_left
                              · intro w'
                                go_simp
                                with_reducible rfl
                              rotate_left
                              · simp only [Act.put, List.setIfInBounds_toArray, List.set_cons_zero, List.set_cons_succ, i64_w, i32_w]
                                rfl
                              refine last_ (i := 18) (N := some 126) #[true, true, true, true, true, true, true, true, true, true, true, true, true, true, true, true, true, true, true, false, false] rfl rfl (one_of HT_.out (by kernel_rfl)) (by decide) (fun K hK => ?_)
                              refine value_ (w1 := ?_) (v := ?_) (by rfl) rfl ?_ ?_
                              rotate_left 2
                              · go_simp
                                constructor
                                · rfl
                                · rfl
                              refine hK.out _ _ ?_
                              clear hK K
                              refine norm_ (a' := ?_) ?_ ?_
                              rotate_left
                              · show Act.put _ (some 126) _ = _
                                simp only [Act.put, List.setIfInBounds_toArray, List.set_cons_zero, List.set_cons_succ, i64_w, i32_w]
                                rfl
                              refine last_ (i := 19) (N := some 127) #[true, true, true, true, true, true, true, true, true, true, true, true, true, true, true, true, true, true, true, true, false] rfl rfl (one_of HT_.out (by kernel_rfl)) (by decide) (fun K hK => ?_)
                              refine Kd.R_append_step k23 (w0 := w) w.heap.size (by rfl) (.tmp 108) (.tmp 126) 53 23 (.agg #[(.int .i64 0), (.int .i64 0)]) 16 rfl Try.underlying53 info23 rfl (by decide) (by omega) u19 x19_4 (⟨wrap64 (((rd_T23 t111 x20_4).f0) + (wrap64 (a2))), wrap64 (((rd_T23 t111 x20_4).f1) + (wrap64 (a3)))⟩ : S23) [.int .i64 (wrap64 (((rd_T23 t111 x20_4).f0) + (wrap64 (a2)))), .int .i64 (wrap64 (((rd_T23 t111 x20_4).f1) + (wrap64 (a3))))] (fun k_ => some k_ ≠ (.slice Ao26 t104.length co26 : Value).ownBlock ∧ some k_ ≠ (.slice (some ad125) t111.length co27 : Value).ownBlock) (fun _ => False) rfl rfl ?aP (fun _ hk => hk.elim) ?aF ?aO ?aB ?aS ?aL ?_
                              (case aP => exact k23_mkM _ _ _ (⟨wrap64 (((rd_T23 t111 x20_4).f0) + (wrap64 (a2))), wrap64 (((rd_T23 t111 x20_4).f1) + (wrap64 (a3)))⟩ : S23))
                              (case aB => exact (by repeat (first | (with_reducible first | exact HB.out | apply below_alloc | apply pw_below_drewN | apply below_drew1) | exact HB.out)))
                              (case aF => exact (fun k_ hk => ⟨Kd.fresh' (Kd.R_lt (by (with_reducible repeat (first | apply Kd.R_alloc | apply Kd.R_drewN | apply Kd.R_drew)); exact HO_9.out)) k_ hk, Kd.fresh' (Kd.R_lt (by (with_reducible repeat (first | apply Kd.R_alloc | apply Kd.R_drewN | apply Kd.R_drew)); exact HO_11.out)) k_ hk⟩))
                              (case aO => exact (by (with_reducible repeat (first | apply Kd.R_alloc | apply Kd.R_drewN | apply Kd.R_drew)); exact HO_19.out))
                              (case aS => exact (below_size (by repeat (first | (with_reducible first | exact HB.out | apply below_alloc | apply pw_below_drewN | apply below_drew1) | exact HB.out))))
                              (case aL => have := LMc44.out; omega)
                              intro v128 w46 ho hb hg hat
                              rw [← Ny127.out] at ho
                              have n0_ := Aside0.mk (Kd.R_after (ok := (fun k_ => some k_ ≠ (.slice (some ad125) t111.length co27 : Value).ownBlock)) (by (with_reducible repeat (first | apply Kd.R_alloc | apply Kd.R_drewN | apply Kd.R_drew)); exact HO_9.out) hg hat)
                              have n1_ := Aside0.mk (Kd.R_after (ok := (fun k_ => some k_ ≠ (.slice Ao26 t104.length co26 : Value).ownBlock)) (by (with_reducible repeat (first | apply Kd.R_alloc | apply Kd.R_drewN | apply Kd.R_drew)); exact HO_11.out) hg hat)
                              have n2_ := Aside0.mk (hb)
                              have n3_ := Aside0.mk (ho)
                              clear HO_9
                              clear HO_11
                              clear HB
                              clear HO_19
                              have HO_9 := n0_
                              have HO_11 := n1_
                              have HB := n2_
                              have HO129 := n3_
                              clear n0_ n1_ n2_ n3_
                              clear ho hb hg hat
                              refine hK.out _ _ ?_
                              clear hK K
                              refine norm_ (a' := ?_) ?_ ?_
                              rotate_left
                              · show Act.put _ (some 127) _ = _
                                simp only [Act.put, List.setIfInBounds_toArray, List.set_cons_zero, List.set_cons_succ, i64_w, i32_w]
                                rfl
                              refine pure_ (i := 20) (N := some 19) (v := ?_) (a' := ?_) #[true, true, true, true, true, true, true, true, true, true, true, true, true, true, true, true, true, true, true, true, true] rfl rfl (any_of HT_.out (by kernel_rfl)) (fun _ _ _ h => h) (Or.inl ⟨by rfl, ?_⟩) ?_ ?_
                              rotate_left
                              · intro w'
                                go_simp
                                with_reducible rfl
                              rotate_left
                              · simp only [Act.put, List.setIfInBounds_toArray, List.set_cons_zero, List.set_cons_succ, i64_w, i32_w]
                                rfl
                              refine done_ (done_of HT_.out (by kernel_rfl)) ?_
                              try go_wp2
                              go_roundg k4
                              case measure => have := HJ8.out; have := HJ24.out; have := HK3.out; have := HK4.out; omega
                              case rel => exact ⟨(y127), (wrap64 (x20_4 + 1)), (by first | rfl | (simp; done) | (simp [*]; done)), H', ⟨by have := HJ8.out; have := HJ24.out; have := HK3.out; have := HK4.out; omega⟩, ⟨by (with_reducible repeat (first | apply Kd.R_alloc | apply Kd.R_drewN | apply Kd.R_drew)); exact HO_9.out⟩, ⟨by (with_reducible repeat (first | apply Kd.R_alloc | apply Kd.R_drewN | apply Kd.R_drew)); exact HO_11.out⟩, ⟨by (with_reducible repeat (first | apply Kd.R_alloc | apply Kd.R_drewN | apply Kd.R_drew)); exact HO129.out⟩, ⟨by repeat (first | (with_reducible first | exact HB.out | apply below_alloc | apply pw_below_drewN | apply below_drew1) | exact HB.out)⟩⟩
                            · rw [if_neg c44] at H
                              exact absurd H (by simp)
                          · rw [if_neg c43] at H
                            exact absurd H (by simp)
                        · rw [if_neg c42] at H
                          have c42b0 : decide (x20_4 < (t111.length : Int)) = false := decide_eq_false c42
                          clear c42
                          replace H := Option.bind_eq_some_iff.mp H
                          obtain ⟨⟨t130, t131⟩, A470, H⟩ := H
                          replace H : (if t131 = 0 then (if t130 ≤ (wrap64 (t117 + (mx (mx (mx (wrap64 (a2)) (wrap64 (-(wrap64 (a2))))) (wrap64 (a3))) (wrap64 (-(wrap64 (a3))))))) then (if t117 ≤ (wrap64 (t130 + (mx (mx (mx (wrap64 (a2)) (wrap64 (-(wrap64 (a2))))) (wrap64 (a3))) (wrap64 (-(wrap64 (a3))))))) then ((goosenecklaw01_works.f k4).bind fun t132 => (some t132)) else (some false)) else (some false)) else (some false)) = some r := H
                          have A47 := Aside0.mk A470
                          clear A470
                          obtain ⟨ji48, hji48⟩ : ∃ j_ : Int, (mx (wrap64 (a2)) (wrap64 (-(wrap64 (a2))))) = j_ := ⟨_, rfl⟩
                          replace H : (if t131 = 0 then (if t130 ≤ (wrap64 (t117 + (mx (mx (ji48) (wrap64 (a3))) (wrap64 (-(wrap64 (a3))))))) then (if t117 ≤ (wrap64 (t130 + (mx (mx (ji48) (wrap64 (a3))) (wrap64 (-(wrap64 (a3))))))) then ((goosenecklaw01_works.f k4).bind fun t132 => (some t132)) else (some false)) else (some false)) else (some false)) = some r := by first | (rw [hji48] at H; exact H) | (simp only [hji48] at H ⊢; exact H)
                          (try rw [hji48] at A47)
                          have hji48_ : (if (wrap64 (a2)) < (wrap64 (-(wrap64 (a2)))) then (wrap64 (-(wrap64 (a2)))) else (wrap64 (a2))) = ji48 := hji48
                          obtain ⟨ji49, hji49⟩ : ∃ j_ : Int, (mx (ji48) (wrap64 (a3))) = j_ := ⟨_, rfl⟩
                          replace H : (if t131 = 0 then (if t130 ≤ (wrap64 (t117 + (mx (ji49) (wrap64 (-(wrap64 (a3))))))) then (if t117 ≤ (wrap64 (t130 + (mx (ji49) (wrap64 (-(wrap64 (a3))))))) then ((goosenecklaw01_works.f k4).bind fun t132 => (some t132)) else (some false)) else (some false)) else (some false)) = some r := by first | (rw [hji49] at H; exact H) | (simp only [hji49] at H ⊢; exact H)
                          (try rw [hji49] at A47)
                          have hji49_ : (if (ji48) < (wrap64 (a3)) then (wrap64 (a3)) else (ji48)) = ji49 := hji49
                          obtain ⟨ji50, hji50⟩ : ∃ j_ : Int, (mx (ji49) (wrap64 (-(wrap64 (a3))))) = j_ := ⟨_, rfl⟩
                          replace H : (if t131 = 0 then (if t130 ≤ (wrap64 (t117 + (ji50))) then (if t117 ≤ (wrap64 (t130 + (ji50))) then ((goosenecklaw01_works.f k4).bind fun t132 => (some t132)) else (some false)) else (some false)) else (some false)) = some r := by first | (rw [hji50] at H; exact H) | (simp only [hji50] at H ⊢; exact H)
                          (try rw [hji50] at A47)
                          have hji50_ : (if (ji49) < (wrap64 (-(wrap64 (a3)))) then (wrap64 (-(wrap64 (a3)))) else (ji49)) = ji50 := hji50
                          by_cases c51 : t131 = 0
                          · rw [if_pos c51] at H
                            have c51b0 : (t131 == 0) = true := beq_iff_eq.mpr c51
                            have c51b1 : (t131 != 0) = false := bne_eq_false_iff_eq.mpr c51
                            clear c51
                            by_cases c52 : t130 ≤ (wrap64 (t117 + (ji50)))
                            · rw [if_pos c52] at H
                              have c52b0 : decide (t130 ≤ (wrap64 (t117 + (ji50)))) = true := decide_eq_true c52
                              clear c52
                              by_cases c53 : t117 ≤ (wrap64 (t130 + (ji50)))
                              · rw [if_pos c53] at H
                                have c53b0 : decide (t117 ≤ (wrap64 (t130 + (ji50)))) = true := decide_eq_true c53
                                clear c53
                                replace H := Option.bind_eq_some_iff.mp H
                                obtain ⟨t132, A540, H⟩ := H
                                replace H : (some t132) = some r := H
                                have A54 := Aside0.mk A540
                                clear A540
                                obtain rfl := Option.some.inj H
                                obtain ⟨Ao55, co55, eo55⟩ := Kd.R_slice HO_19.out
                                subst eo55
                                go_wp2_with (first | ((with_reducible refine gate_callee (f := 60) rfl ?_); refine goesL_ (some 131) rfl rfl Try.func60 (by kernel_rfl) rfl #[.slice Ao26 t104.length co26, .slice Ao55 x19_4.length co55] rfl (by (try simp only [List.map_toArray, List.map_cons, List.map_nil]); first | done | rfl | (simp only [List.length_drop, List.length_take]; rfl)) ?_; (with_reducible refine (plane_Gap.calls k4 (fun k_ => some k_ = (.slice Ao26 t104.length co26 : Value).ownBlock) _ _ t104 (fun k_ => some k_ = (.slice Ao55 x19_4.length co55 : Value).ownBlock) _ _ x19_4 t130 t131 _ ?side1 ?side2 A47.out).mono ?_); (case side1 => exact Kd.R_V (Kd.R_tight rfl (HO_9.out))); (case side2 => exact Kd.R_V (Kd.R_tight rfl (HO_19.out))); rintro e w56 ⟨rfl, hb⟩; refine ⟨_, rfl, ?_⟩; have n0_ := Aside0.mk (Kd.R_below (by (with_reducible repeat (first | apply Kd.R_alloc | apply Kd.R_drewN | apply Kd.R_drew)); exact HO_9.out) hb); have n1_ := Aside0.mk (Kd.R_below (by (with_reducible repeat (first | apply Kd.R_alloc | apply Kd.R_drewN | apply Kd.R_drew)); exact HO_11.out) hb); have n2_ := Aside0.mk (Kd.R_below (by (with_reducible repeat (first | apply Kd.R_alloc | apply Kd.R_drewN | apply Kd.R_drew)); exact HO_19.out) hb); have n3_ := Aside0.mk (below_step (by repeat (first | (with_reducible first | exact HB.out | apply below_alloc | apply pw_below_drewN | apply below_drew1) | exact HB.out)) hb); clear HO_9; clear HO_11; clear HO_19; clear HB; have HO_9 := n0_; have HO_11 := n1_; have HO_19 := n2_; have HB := n3_; clear n0_ n1_ n2_ n3_; (try clear hb); (try clear hb2); (try clear hk); (try clear hi)) | (go_at_call 19; (with_reducible refine (goosenecklaw01_works.calls k4  t132 _ A54.out).mono ?_); rintro e w57 ⟨rfl, hb⟩; have n0_ := Aside0.mk (Kd.R_below (by (with_reducible repeat (first | apply Kd.R_alloc | apply Kd.R_drewN | apply Kd.R_drew)); exact HO_9.out) hb); have n1_ := Aside0.mk (Kd.R_below (by (with_reducible repeat (first | apply Kd.R_alloc | apply Kd.R_drewN | apply Kd.R_drew)); exact HO_11.out) hb); have n2_ := Aside0.mk (Kd.R_below (by (with_reducible repeat (first | apply Kd.R_alloc | apply Kd.R_drewN | apply Kd.R_drew)); exact HO_19.out) hb); have n3_ := Aside0.mk (below_step (by repeat (first | (with_reducible first | exact HB.out | apply below_alloc | apply pw_below_drewN | apply below_drew1) | exact HB.out)) hb); clear HO_9; clear HO_11; clear HO_19; clear HB; have HO_9 := n0_; have HO_11 := n1_; have HO_19 := n2_; have HB := n3_; clear n0_ n1_ n2_ n3_; (try clear hb); (try clear hb2); (try clear hk); (try clear hi)))
                                go_ret
                                exact ⟨by first | rfl | (simp [errW_none, errW_some] <;> rfl) | (simp only [← hji32, ← hji48, ← hji49, ← hji50]; first | rfl | (simp [errW_none, errW_some] <;> rfl)) | (simp [*, errW_none, errW_some] <;> rfl), by repeat (first | (with_reducible first | exact HB.out | apply below_alloc | apply pw_below_drewN | apply below_drew1) | exact HB.out)⟩
                              · rw [if_neg c53] at H
                                have c53b0 : decide (t117 ≤ (wrap64 (t130 + (ji50)))) = false := decide_eq_false c53
                                clear c53
                                rw [hr_.out] at H
                                exact absurd H (by simp)
                            · rw [if_neg c52] at H
                              have c52b0 : decide (t130 ≤ (wrap64 (t117 + (ji50)))) = false := decide_eq_false c52
                              clear c52
                              rw [hr_.out] at H
                              exact absurd H (by simp)
                          · rw [if_neg c51] at H
                            have c51b0 : (t131 == 0) = false := beq_eq_false_iff_ne.mpr c51
                            have c51b1 : (t131 != 0) = true := bne_iff_ne.mpr c51
                            rw [hr_.out] at H
                            exact absurd H (by simp)
end Go.Proofs.Ytegdcnjjelgpjaa.P
namespace Go.Proofs.Ytegdcnjjelgpjaa.P
open Go.RowKit Go.Deep Go.ChangeShapes Go.WideShapes Go.Proofs.YtegdcnjjelgpjaaW.PrintWords Go.Proofs.YtegdcnjjelgpjaaW.PrintLast Go.Proofs.YtegdcnjjelgpjaaW.PrintMore
def Opens {α : Type} (P : Program) (t : TypeId) (d : Kd α) (wf : α → Prop) : Prop :=
  ∀ (H : Type) (enc : TypeId × Value → H) (w : World) (base : Nat) (spare : Nat → Bool) (held : Bool) (fuel : Nat) (cs : List Value) (x : DataW H × List MemPlace), DataW.trod enc P w base spare held fuel t cs = some x → ∃ a : α, d.K w a cs ∧ wf a
def FieldsOpen {α : Type} (P : Program) (fs : List Field) (off : Nat) (d : Kd α) (wf : α → Prop) : Prop :=
  ∀ (H : Type) (enc : TypeId × Value → H) (w : World) (base : Nat) (spare : Nat → Bool) (held : Bool) (cs : List Value), (∀ f ∈ fs, ∃ n y, DataW.trod enc P w base spare held n f.type ((cs.drop f.offset).take (P.cellsOf f.type)) = some y) → cs.length = off + d.sz → ∃ a : α, d.K w a (cs.drop off) ∧ wf a
theorem Opens.int {P : Program} {t : TypeId} {k : IntKind} (hu : P.underlying t = some (.int k)) : Opens P t (Kd.int k) (fun n => (Lit.int k n).wf = true) := by
  intro H enc w base spare held fuel cs x h
  obtain ⟨n, rfl, _, hw⟩ := DataW.trod_int hu h
  exact ⟨n, rfl, hw⟩
theorem Opens.bool {P : Program} {t : TypeId} (hu : P.underlying t = some .bool) : Opens P t Kd.bool (fun _ => True) := by
  intro H enc w base spare held fuel cs x h
  obtain ⟨n, rfl, _⟩ := DataW.trod_bool hu h
  exact ⟨n, rfl, trivial⟩
theorem FieldsOpen.one {α : Type} {P : Program} {f : Field} {off : Nat} {d : Kd α} {wf : α → Prop} (ho : f.offset = off) (hs : P.cellsOf f.type = d.sz) (h : Opens P f.type d wf) : FieldsOpen P [f] off d wf := by
  intro H enc w base spare held cs hf hl
  obtain ⟨n, y, hy⟩ := hf f (List.mem_singleton.2 rfl)
  rw [ho, hs, List.take_of_length_le (by rw [List.length_drop]; omega)] at hy
  exact h H enc w base spare held n _ y hy
theorem FieldsOpen.cons {α β : Type} {P : Program} {f : Field} {fs : List Field} {off : Nat} {d : Kd α} {d' : Kd β} {wf : α → Prop} {wf' : β → Prop} (ho : f.offset = off) (hs : P.cellsOf f.type = d.sz) (h : Opens P f.type d wf) (h' : FieldsOpen P fs (off + d.sz) d' wf') :
    FieldsOpen P (f :: fs) off (Kd.pair d d') (fun x => wf x.1 ∧ wf' x.2) := by
  intro H enc w base spare held cs hf hl
  have hl' : cs.length = off + (d.sz + d'.sz) := hl
  obtain ⟨n, y, hy⟩ := hf f (List.mem_cons_self ..)
  rw [ho, hs] at hy
  obtain ⟨a, ha, wa⟩ := h H enc w base spare held n _ y hy
  obtain ⟨b, hb, wb⟩ := h' H enc w base spare held cs (fun g hg => hf g (List.mem_cons_of_mem _ hg)) (by omega)
  refine ⟨(a, b), ⟨_, _, ?_, ha, hb⟩, wa, wb⟩
  rw [← List.drop_drop, List.take_append_drop]
theorem Opens.struct {α : Type} {P : Program} {t : TypeId} {fs : Array Field} {d : Kd α} {wf : α → Prop} (hu : P.underlying t = some (.struct fs)) (hs : P.cellsOf t = d.sz) (h : FieldsOpen P fs.toList 0 d wf) : Opens P t d wf := by
  intro H enc w base spare held fuel cs x hx
  obtain ⟨xs, n, _, _, hl, hlen, hf⟩ := DataW.trod_struct hu hx
  have hk := h H enc w base spare held cs (fun f hf' => by
    obtain ⟨i, hi⟩ := List.getElem?_of_mem hf'
    have h1 := hf i f (by simpa using hi)
    have hlt : i < xs.length := by
      have := (List.getElem?_eq_some_iff.1 hi).1
      rw [hlen]; simpa using this
    rw [List.getElem?_eq_getElem hlt] at h1
    exact ⟨n, _, h1⟩) (by rw [hl, hs]; omega)
  simpa using hk
theorem Opens.iso {α β : Type} {P : Program} {t : TypeId} {d : Kd α} {f : β → α} {wf : α → Prop} (g : α → β) (hg : ∀ a, f (g a) = a) (h : Opens P t d wf) : Opens P t (Kd.iso d f) (fun b => wf (f b)) := by
  intro H enc w base spare held fuel cs x hx
  obtain ⟨a, ha, wa⟩ := h H enc w base spare held fuel cs x hx
  exact ⟨g a, by show d.K w (f (g a)) cs; rw [hg]; exact ha, by show wf (f (g a)); rw [hg]; exact wa⟩
theorem Opens.slice {α : Type} {P : Program} {t e : TypeId} {d : Kd α} {wf : α → Prop} (hu : P.underlying t = some (.slice e)) (hs : P.cellsOf e = d.sz) (h : Opens P e d wf) : Opens P t (Kd.slice e d) (fun l => l.length ≤ 9223372036854775807 ∧ ∀ x ∈ l, wf x) := by
  intro H enc w base spare held fuel cs x hx
  rcases open_slice hu hx with ⟨rfl, _⟩ | ⟨a, len, cap, m, n, D, Pl, rfl, hb, hl, hm, hmm, _, hel⟩
  · exact ⟨[], ⟨none, 0, rfl, Nat.le_refl _, rfl, by simp, fun h => absurd h (Nat.lt_irrefl 0)⟩, by simp, fun x hx => by cases hx⟩
  · have hlm : len ≤ m := by rw [hmm]; split <;> omega
    have hmx : cap ≤ 9223372036854775807 := by simpa [maxLen] using hm
    have key : ∀ k, k ≤ len → ∃ xs : List α, xs.length = k ∧ (∀ x ∈ xs, wf x) ∧ ∀ j p, xs[j]? = some p → ∃ c, c.length = d.sz ∧ d.K w p c ∧ ∀ i u, c[i]? = some u → w.cell? (a.add (j * d.sz + i)) = some u := by
      intro k
      induction k with
      | zero => intro _; exact ⟨[], rfl, (fun x hx => by cases hx), fun j p hj => by simp at hj⟩
      | succ k ih =>
        intro hk
        obtain ⟨xs, hxl, hxw, hxs⟩ := ih (by omega)
        obtain ⟨cs', hcs, htr⟩ := hel k (by omega)
        obtain ⟨_, hcl, hcell⟩ := World.cells?_some hcs
        obtain ⟨p, hp, wp⟩ := h H enc w base spare held n cs' _ htr
        refine ⟨xs ++ [p], by simp [hxl], ?_, ?_⟩
        · intro x hx
          rcases List.mem_append.1 hx with hx | hx
          · exact hxw x hx
          · rw [List.mem_singleton.1 hx]; exact wp
        · intro j q hj
          rcases Nat.lt_or_ge j xs.length with hj' | hj'
          · rw [List.getElem?_append_left hj'] at hj
            exact hxs j q hj
          · have hjk : j = k := by
              have := (List.getElem?_eq_some_iff.1 hj).1
              rw [List.length_append, List.length_singleton] at this
              omega
            subst hjk
            rw [List.getElem?_append_right (by omega)] at hj
            have hq : p = q := by simpa [hxl] using hj
            subst hq
            refine ⟨cs', by rw [hcl, hs], hp, fun i u hi => ?_⟩
            have hi' : i < cs'.length := (List.getElem?_eq_some_iff.1 hi).1
            have := hcell i (by omega)
            rw [Deep.add_add, hs] at this
            rw [this, hi]
    obtain ⟨xs, hxl, hxw, hxs⟩ := key len (Nat.le_refl _)
    subst hxl
    exact ⟨xs, ⟨some a, cap, rfl, hl, rfl, by omega, fun _ => ⟨a, rfl, hxs⟩⟩, by omega, hxw⟩
theorem wf_i8 {n : Int} (h : (Lit.int .i8 n).wf = true) : -128 ≤ n ∧ n ≤ 127 := by simpa [Lit.wf, IntKind.min, IntKind.max, IntKind.signed, IntKind.bits] using h
end Go.Proofs.Ytegdcnjjelgpjaa.P
namespace Go.Proofs.Ytegdcnjjelgpjaa.P
open Go.RowKit Go.Proofs.YtegdcnjjelgpjaaW.PrintWords Go.Proofs.YtegdcnjjelgpjaaW.PrintLast Go.Proofs.YtegdcnjjelgpjaaW.PrintMore
open Go.Deep Go.ChangeShapes Go.WideShapes
def wfS32 (x : S32) : Prop := (Lit.int .i8 x.f0).wf = true ∧ (Lit.int .i8 x.f1).wf = true
theorem opens32 : Opens Try.prog 32 k32 wfS32 := Opens.iso (fun a => ⟨a.1, a.2⟩) (fun a => rfl) (Opens.struct Try.underlying32 (by kernel_rfl) (FieldsOpen.cons rfl (by kernel_rfl) (Opens.int Try.underlying30) (FieldsOpen.one rfl (by kernel_rfl) (Opens.int Try.underlying30))))
end Go.Proofs.Ytegdcnjjelgpjaa.P
namespace Go.Proofs.Ytegdcnjjelgpjaa.P
open Go.RowKit Go.Proofs.YtegdcnjjelgpjaaW.PrintWords Go.Proofs.YtegdcnjjelgpjaaW.PrintLast Go.Proofs.YtegdcnjjelgpjaaW.PrintMore
def PlaneGaps_Pure : Prop := ∀ (l0 : List (S32)) (l1 : List (S32)) (a2 : Int) (a3 : Int), (l0.length ≤ 9223372036854775807 ∧ ∀ x_ ∈ l0, wfS32 x_) → (l1.length ≤ 9223372036854775807 ∧ ∀ x_ ∈ l1, wfS32 x_) → ((Lit.int .i8 a2).wf = true) → ((Lit.int .i8 a3).wf = true) → ∃ k, goosenecklaw01_PlaneGaps.f k l0 l1 a2 a3 = some true
end Go.Proofs.Ytegdcnjjelgpjaa.P
namespace Go.Proofs.Ytegdcnjjelgpjaa.P
open Go.RowKit Go.Proofs.YtegdcnjjelgpjaaW.PrintWords Go.Proofs.YtegdcnjjelgpjaaW.PrintLast Go.Proofs.YtegdcnjjelgpjaaW.PrintMore
set_option linter.unusedVariables false
set_option linter.unusedSimpArgs false
def dP (x y : Int) (p : S23) : Int := x * p.f0 + y * p.f1
theorem dP_dt (x y : Int) (p : S23) : Geo.dt S23.f0 S23.f1 x y p = dP x y p := rfl
def Dir (x y : Int) : Prop := (-134217728 ≤ x ∧ x ≤ 134217728) ∧ (-134217728 ≤ y ∧ y ≤ 134217728)
theorem dotW_eq {x y : Int} {p : S23} (hd : Dir x y) (hp : Bd p) : dotW x y p = dP x y p := by
  unfold Dir at hd; unfold Bd at hp
  have h1 := mulA_bd (a := x) (b := p.f0) (A := 134217728) hd.1 ⟨by omega, by omega⟩
  have h2 := mulA_bd (a := y) (b := p.f1) (A := 134217728) hd.2 ⟨by omega, by omega⟩
  unfold dotW dP
  rw [ww (x := x * p.f0) (by omega) (by omega), ww (x := y * p.f1) (by omega) (by omega), ww (by omega) (by omega)]
theorem foldl_mx {α : Type} (f : α → Int) : ∀ (l : List α) (z : Int), (∀ p ∈ l, f p ≤ l.foldl (fun m p => mx m (f p)) z) ∧ z ≤ l.foldl (fun m p => mx m (f p)) z ∧ (l.foldl (fun m p => mx m (f p)) z = z ∨ ∃ p ∈ l, l.foldl (fun m p => mx m (f p)) z = f p)
  | [], z => ⟨by simp, Int.le_refl _, .inl rfl⟩
  | a :: l, z => by
    obtain ⟨h1, h2, h3⟩ := foldl_mx f l (mx z (f a))
    simp only [List.foldl_cons]
    have e1 : z ≤ mx z (f a) := by unfold mx; split <;> omega
    have e2 : f a ≤ mx z (f a) := by unfold mx; split <;> omega
    refine ⟨fun p hp => ?_, by omega, ?_⟩
    · rcases List.mem_cons.1 hp with rfl | hp
      · omega
      · exact h1 p hp
    · rcases h3 with h3 | ⟨p, hp, h3⟩
      · unfold mx at h3 ⊢
        split at h3
        · rename_i c; rw [if_pos c]; exact .inr ⟨a, by simp, h3⟩
        · rename_i c; rw [if_neg c]; exact .inl h3
      · exact .inr ⟨p, by simp [hp], h3⟩
theorem foldl_mn {α : Type} (f : α → Int) : ∀ (l : List α) (z : Int), (∀ p ∈ l, l.foldl (fun m p => mn m (f p)) z ≤ f p) ∧ l.foldl (fun m p => mn m (f p)) z ≤ z ∧ (l.foldl (fun m p => mn m (f p)) z = z ∨ ∃ p ∈ l, l.foldl (fun m p => mn m (f p)) z = f p)
  | [], z => ⟨by simp, Int.le_refl _, .inl rfl⟩
  | a :: l, z => by
    obtain ⟨h1, h2, h3⟩ := foldl_mn f l (mn z (f a))
    simp only [List.foldl_cons]
    have e1 : mn z (f a) ≤ z := by unfold mn; split <;> omega
    have e2 : mn z (f a) ≤ f a := by unfold mn; split <;> omega
    refine ⟨fun p hp => ?_, by omega, ?_⟩
    · rcases List.mem_cons.1 hp with rfl | hp
      · omega
      · exact h1 p hp
    · rcases h3 with h3 | ⟨p, hp, h3⟩
      · unfold mn at h3 ⊢
        split at h3
        · rename_i c; rw [if_pos c]; exact .inr ⟨a, by simp, h3⟩
        · rename_i c; rw [if_neg c]; exact .inl h3
      · exact .inr ⟨p, by simp [hp], h3⟩
theorem cons_drop {l : List S23} (h : 0 < l.length) : l = rd_T23 l 0 :: l.drop 1 := by
  cases l with
  | nil => simp at h
  | cons a r => rfl
theorem hiW_max {x y : Int} {l : List S23} (h : 0 < l.length) : (∀ p ∈ l, dotW x y p ≤ hiW x y l) ∧ ∃ p ∈ l, hiW x y l = dotW x y p := by
  obtain ⟨h1, h2, h3⟩ := foldl_mx (dotW x y) (l.drop 1) (dotW x y (rd_T23 l 0))
  have hc := cons_drop h
  unfold hiW
  refine ⟨fun p hp => ?_, ?_⟩
  · rw [hc] at hp
    rcases List.mem_cons.1 hp with rfl | hp
    · exact h2
    · exact h1 p hp
  · rcases h3 with h3 | ⟨p, hp, h3⟩
    · exact ⟨_, by rw [hc]; simp [rd_T23], h3⟩
    · exact ⟨p, List.mem_of_mem_drop hp, h3⟩
theorem loW_min {x y : Int} {l : List S23} (h : 0 < l.length) : (∀ p ∈ l, loW x y l ≤ dotW x y p) ∧ ∃ p ∈ l, loW x y l = dotW x y p := by
  obtain ⟨h1, h2, h3⟩ := foldl_mn (dotW x y) (l.drop 1) (dotW x y (rd_T23 l 0))
  have hc := cons_drop h
  unfold loW
  refine ⟨fun p hp => ?_, ?_⟩
  · rw [hc] at hp
    rcases List.mem_cons.1 hp with rfl | hp
    · exact h2
    · exact h1 p hp
  · rcases h3 with h3 | ⟨p, hp, h3⟩
    · exact ⟨_, by rw [hc]; simp [rd_T23], h3⟩
    · exact ⟨p, List.mem_of_mem_drop hp, h3⟩
def BdL (l : List S23) : Prop := ∀ p ∈ l, Bd p
abbrev SepD (u v : Int) (a b : List S23) : Prop := Geo.Sep S23.f0 S23.f1 u v a b
def SepE (a b : List S23) : Prop := ∃ u v, SepD u v a b
theorem span_sep {x y : Int} {a b : List S23} (hd : Dir x y) (ha : BdL a) (hb : BdL b) (na : 0 < a.length) (nb : 0 < b.length) : hiW x y a < loW x y b ↔ SepD x y a b := by
  obtain ⟨h1, p, hp, h2⟩ := hiW_max (x := x) (y := y) na
  obtain ⟨g1, q, hq, g2⟩ := loW_min (x := x) (y := y) nb
  constructor
  · intro h s hs t ht
    have k1 := h1 s hs
    have k2 := g1 t ht
    rw [dotW_eq hd (ha s hs)] at k1
    rw [dotW_eq hd (hb t ht)] at k2
    rw [dP_dt, dP_dt]; omega
  · intro h
    have := h p hp q hq
    rw [dP_dt, dP_dt, ← dotW_eq hd (ha p hp), ← dotW_eq hd (hb q hq)] at this
    omega
theorem bd_sub {p q : S23} (hp : Bd p) (hq : Bd q) : (wrap64 (q.f0 - p.f0) = q.f0 - p.f0 ∧ wrap64 (q.f1 - p.f1) = q.f1 - p.f1) ∧ (wrap64 (-(q.f0 - p.f0)) = -(q.f0 - p.f0) ∧ wrap64 (-(q.f1 - p.f1)) = -(q.f1 - p.f1)) ∧ (-134217728 ≤ q.f0 - p.f0 ∧ q.f0 - p.f0 ≤ 134217728) ∧ (-134217728 ≤ q.f1 - p.f1 ∧ q.f1 - p.f1 ≤ 134217728) := by
  unfold Bd at hp hq
  refine ⟨⟨ww (by omega) (by omega), ww (by omega) (by omega)⟩, ⟨ww (by omega) (by omega), ww (by omega) (by omega)⟩, ⟨by omega, by omega⟩, by omega, by omega⟩
theorem next_mod {n i : Nat} (hi : i < n) : Geo.Next n i ((i + 1) % n) := by
  by_cases g : i + 1 < n
  · rw [Nat.mod_eq_of_lt g]; exact .inl rfl
  · have : i + 1 = n := by omega
    rw [this, Nat.mod_self]; exact .inr ⟨this, rfl⟩
theorem mod_next {n i j : Nat} (hj : j < n) (h : Geo.Next n i j) : j = (i + 1) % n := by
  rcases h with h | ⟨h, rfl⟩
  · rw [Nat.mod_eq_of_lt (by omega)]; exact h
  · rw [h, Nat.mod_self]
theorem side_mem {h : List S23} {s : S23 × S23} (hs : s ∈ sideL h) : ∃ (i j : Nat) (hi : i < h.length) (hj : j < h.length), Geo.Next h.length i j ∧ s = (h[i], h[j]) := by
  obtain ⟨i, hi, rfl⟩ := List.mem_map.1 hs
  have hi' : i < h.length := by simpa using hi
  have hj : (i + 1) % h.length < h.length := Nat.mod_lt _ (by omega)
  refine ⟨i, (i + 1) % h.length, hi', hj, next_mod hi', ?_⟩
  simp [sideAt, List.getD_eq_getElem?_getD, hi', hj]
theorem mem_side {h : List S23} {i j : Nat} (hi : i < h.length) (hj : j < h.length) (hn : Geo.Next h.length i j) : (h[i], h[j]) ∈ sideL h := by
  refine List.mem_map.2 ⟨i, by simpa using hi, ?_⟩
  have := mod_next hj hn
  subst this
  simp [sideAt, List.getD_eq_getElem?_getD, hi, hj]
theorem dirs_dir {h : List S23} (hb : BdL h) {d : S75} (hd : d ∈ dirs h) : Dir d.f0 d.f1 := by
  obtain ⟨s, hs, hd⟩ := List.mem_flatMap.1 hd
  obtain ⟨i, j, hi, hj, _, rfl⟩ := side_mem hs
  obtain ⟨⟨e0, e1⟩, ⟨e2, e3⟩, h0, h1⟩ := bd_sub (hb _ (List.getElem_mem hi)) (hb _ (List.getElem_mem hj))
  simp only [dir4, e0, e1, e2, e3, List.mem_cons, List.not_mem_nil, or_false] at hd
  unfold Dir
  rcases hd with rfl | rfl | rfl | rfl <;> refine ⟨⟨?_, ?_⟩, ?_, ?_⟩ <;> dsimp only <;> omega
theorem dir_mem {h : List S23} (hb : BdL h) {u v : Int} (hd : Geo.DirOf S23.f0 S23.f1 h u v) : (⟨u, v, 0⟩ : S75) ∈ dirs h := by
  obtain ⟨i, j, hi, hj, hn, hd⟩ := hd
  obtain ⟨⟨e0, e1⟩, ⟨e2, e3⟩, h0, h1⟩ := bd_sub (hb _ (List.getElem_mem hi)) (hb _ (List.getElem_mem hj))
  refine List.mem_flatMap.2 ⟨_, mem_side hi hj hn, ?_⟩
  simp only [dir4, e0, e1, e2, e3, List.mem_cons, List.not_mem_nil, or_false]
  rcases hd with ⟨rfl, rfl⟩ | ⟨rfl, rfl⟩ | ⟨rfl, rfl⟩ | ⟨rfl, rfl⟩ <;> simp
theorem rd0_mem {l : List S23} (h : 0 < l.length) : rd_T23 l 0 = l[0] := by
  cases l with
  | nil => simp at h
  | cons a r => rfl
theorem partL_dir {a b : List S23} (na : 0 < a.length) (nb : 0 < b.length) (ha : BdL a) (hb : BdL b) {d : S75} (hd : d ∈ partL a b) : Dir d.f0 d.f1 := by
  unfold partL at hd
  rcases List.mem_cons.1 hd with rfl | hd
  · obtain ⟨⟨e0, e1⟩, ⟨e2, e3⟩, h0, h1⟩ := bd_sub (ha _ (List.getElem_mem na)) (hb _ (List.getElem_mem nb))
    unfold dir0 Dir
    rw [rd0_mem na, rd0_mem nb, e0, e1]
    exact ⟨h0, h1⟩
  · rcases List.mem_append.1 hd with hd | hd
    · exact dirs_dir ha hd
    · exact dirs_dir hb hd
abbrev IsHu (s h : List S23) : Prop := Geo.IsH S23.f0 S23.f1 s h
theorem tryA_some {a b : List S23} {d x : S75} : tryA a b d = some x ↔ hiW d.f0 d.f1 a < loW d.f0 d.f1 b ∧ x = ⟨d.f0, d.f1, hiW d.f0 d.f1 a⟩ := by
  unfold tryA
  split
  · rename_i c; simp [c, eq_comm]
  · rename_i c; simp [c]
theorem part_some {a b : List S23} (HA : IsHu a a) (HB : IsHu b b) (ha : BdL a) (hb : BdL b) (h : SepE a b) : ∃ x, tryO a b (partL a b) = some x := by
  obtain ⟨u, v, h⟩ := h
  obtain ⟨u, v, h, hd⟩ := Geo.sat inj23 HA HB h
  have hm : (⟨u, v, 0⟩ : S75) ∈ partL a b := by
    unfold partL
    rcases hd with hd | hd | ⟨rfl, rfl⟩
    · exact List.mem_cons_of_mem _ (List.mem_append_left _ (dir_mem ha hd))
    · exact List.mem_cons_of_mem _ (List.mem_append_right _ (dir_mem hb hd))
    · obtain ⟨⟨e0, e1⟩, _⟩ := bd_sub (ha _ (List.getElem_mem HA.ne)) (hb _ (List.getElem_mem HB.ne))
      have : dir0 a b = ⟨S23.f0 (b[0]'HB.ne) - S23.f0 (a[0]'HA.ne), S23.f1 (b[0]'HB.ne) - S23.f1 (a[0]'HA.ne), 0⟩ := by
        unfold dir0
        rw [rd0_mem HA.ne, rd0_mem HB.ne, e0, e1]
      rw [this]; exact List.mem_cons_self ..
  have hk := (span_sep (partL_dir HA.ne HB.ne ha hb hm) ha hb HA.ne HB.ne).2 h
  cases e : tryO a b (partL a b) with
  | some x => exact ⟨x, rfl⟩
  | none =>
    have := List.findSome?_eq_none_iff.1 e _ hm
    unfold tryA at this
    rw [if_pos hk] at this
    simp at this
theorem part_sound {a b : List S23} (na : 0 < a.length) (nb : 0 < b.length) (ha : BdL a) (hb : BdL b) {x : S75} (h : tryO a b (partL a b) = some x) : Dir x.f0 x.f1 ∧ hiW x.f0 x.f1 a = x.f2 ∧ x.f2 < loW x.f0 x.f1 b ∧ SepD x.f0 x.f1 a b := by
  obtain ⟨d, hd, hx⟩ := List.exists_of_findSome?_eq_some h
  obtain ⟨h1, rfl⟩ := tryA_some.1 hx
  have hdir := partL_dir na nb ha hb hd
  exact ⟨hdir, rfl, h1, (span_sep hdir ha hb na nb).1 h1⟩
def apartV (a b : List S23) : Bool := (tryO a b (partL a b)).isSome
theorem apartV_iff {a b : List S23} (HA : IsHu a a) (HB : IsHu b b) (ha : BdL a) (hb : BdL b) : apartV a b = true ↔ SepE a b := by
  unfold apartV
  constructor
  · intro h
    obtain ⟨x, hx⟩ := Option.isSome_iff_exists.1 h
    exact ⟨_, _, (part_sound HA.ne HB.ne ha hb hx).2.2.2⟩
  · intro h
    obtain ⟨x, hx⟩ := part_some HA HB ha hb h
    rw [hx]; rfl
theorem lineR_ok (o : Option S75) : (lineR o).2.2.2 = o.isSome := by cases o <;> rfl
theorem apart_eq {a b : List S23} (na : 0 < a.length) (nb : 0 < b.length) : plane_apart.f a b = some (apartV a b) := by
  unfold plane_apart.f plane_part.f
  rw [if_pos ⟨na, nb⟩, Option.bind_some, lineR_ok]; rfl
theorem SepE.symm {a b : List S23} (h : SepE a b) : SepE b a := by
  obtain ⟨u, v, h⟩ := h
  refine ⟨-u, -v, fun q hq p hp => ?_⟩
  have := h p hp q hq
  simp only [dP_dt, dP] at *
  rw [Int.neg_mul, Int.neg_mul, Int.neg_mul, Int.neg_mul]; omega
theorem isHu_self {s h : List S23} (H : IsHu s h) : IsHu h h :=
  ⟨H.ne, fun _ hx => hx, fun u v w hw => ⟨w, hw, Int.le_refl _⟩, fun i j hi hj hn w hw => H.left i j hi hj hn w (H.sub w hw), H.turn, H.nodup, fun w hw => H.first w (H.sub w hw)⟩
theorem hull_isH {l : List S23} (h : l ≠ []) : IsHu l (hull l) := by
  have H := Geo.hullOf_ok (X := S23.f0) (Y := S23.f1) (Geo.sd_ne (X := S23.f0) (Y := S23.f1) h) (Geo.sd_sorted inj23 l)
  have e : ∀ z, z ∈ Geo.sd S23.f0 S23.f1 l ↔ z ∈ l := fun z => Geo.sd_mem
  exact ⟨H.ne, fun x hx => (e x).1 (H.sub x hx), fun u v w hw => H.sup u v w ((e w).2 hw), fun i j hi hj hn w hw => H.left i j hi hj hn w ((e w).2 hw), H.turn, H.nodup, fun w hw => H.first w ((e w).2 hw)⟩
theorem hull_hull {l : List S23} (h : l ≠ []) : hull (hull l) = hull l := by
  have H := hull_isH h
  exact Geo.hullOf_same inj23 (Geo.sd_ne h) (Geo.sd_sorted inj23 l) (Geo.sd_sorted inj23 _) (fun x hx => Geo.sd_mem.2 hx) (fun x hx => Geo.sd_mem.2 (H.sub x (Geo.sd_mem.1 hx)))
theorem sep_hull {s h b : List S23} (H : IsHu s h) {u v : Int} : SepD u v h b ↔ SepD u v s b := by
  constructor
  · intro k w hw q hq
    obtain ⟨x, hx, hle⟩ := H.sup u v w hw
    exact Int.lt_of_le_of_lt hle (k x hx q hq)
  · intro k w hw q hq
    exact k w (H.sub w hw) q hq
theorem sepE_hull {s h b : List S23} (H : IsHu s h) : SepE h b ↔ SepE s b :=
  ⟨fun ⟨u, v, k⟩ => ⟨u, v, (sep_hull H).1 k⟩, fun ⟨u, v, k⟩ => ⟨u, v, (sep_hull H).2 k⟩⟩
theorem isHullV_isH {l : List S23} (h : isHullV l = true) : IsHu l l := by
  obtain ⟨⟨h0, _, _⟩, e⟩ := isHullV_iff.1 h
  have := hull_isH (l := l) (by intro e'; simp [e'] at h0)
  rwa [e] at this
theorem isHullV_ok {l : List S23} (h : isHullV l = true) : okP l = true := (isHullV_iff.1 h).1.2.2
theorem isHullV_bd {l : List S23} (h : isHullV l = true) : BdL l := bnd_iff.1 (bnd_ok (isHullV_ok h))
theorem hull_isHullV {l : List S23} (h0 : 0 < l.length) (h1 : l.length ≤ 128) (h2 : okP l = true) : isHullV (hull l) = true := by
  have hne : l ≠ [] := by intro e; simp [e] at h0
  have H := hull_isH hne
  refine isHullV_iff.2 ⟨⟨H.ne, by have := hull_length l; omega, okP_mem.2 fun p hp => okP_mem.1 h2 p (H.sub p hp)⟩, hull_hull hne⟩
theorem errHs_one {l : List S23} (h : isHullV l = true) : errHs [l] = 0 := by
  unfold errHs
  have := (isHullV_iff.1 h).1
  rw [if_neg (by rw [errLs_zero.2 this.2]; simp)]
  simp [h]
theorem errHs_two {l m : List S23} (h : isHullV l = true) (k : isHullV m = true) : errHs [l, m] = 0 := by
  unfold errHs
  have h1 := (isHullV_iff.1 h).1
  have k1 := (isHullV_iff.1 k).1
  have e : errLs [l, m] = 0 := by
    unfold errLs
    rw [if_neg (by simp; omega), if_pos (by simp [h1.2.2, k1.2.2])]
  rw [if_neg (by rw [e]; simp)]
  simp [h, k]
theorem checkHs_one {l : List S23} (h : isHullV l = true) : plane_checkHulls.f [l] = some 0 := by
  unfold plane_checkHulls.f; rw [if_pos (by simp), errHs_one h]
theorem checkHs_two {l m : List S23} (h : isHullV l = true) (k : isHullV m = true) : plane_checkHulls.f [l, m] = some 0 := by
  unfold plane_checkHulls.f; rw [if_pos (by simp), errHs_two h k]
end Go.Proofs.Ytegdcnjjelgpjaa.P
namespace Go.Proofs.Ytegdcnjjelgpjaa.P
open Go.RowKit Go.Proofs.YtegdcnjjelgpjaaW.PrintWords Go.Proofs.YtegdcnjjelgpjaaW.PrintLast Go.Proofs.YtegdcnjjelgpjaaW.PrintMore
set_option linter.unusedVariables false
set_option linter.unusedSimpArgs false
def reach (u v : Int) : Int := (u.natAbs : Int) + (v.natAbs : Int)
theorem abs_mul_le {u t x : Int} (h0 : 0 ≤ t) (h : -t ≤ x ∧ x ≤ t) : -(t * (u.natAbs : Int)) ≤ u * x ∧ u * x ≤ t * (u.natAbs : Int) := by
  rcases Int.le_total 0 u with g | g
  · have e : (u.natAbs : Int) = u := by omega
    rw [e]
    have h1 : 0 ≤ u * (t - x) := Int.mul_nonneg g (by omega)
    have h2 : 0 ≤ u * (t + x) := Int.mul_nonneg g (by omega)
    rw [Int.mul_sub] at h1; rw [Int.mul_add] at h2
    rw [Int.mul_comm t u]; omega
  · have e : (u.natAbs : Int) = -u := by omega
    rw [e]
    have h1 : 0 ≤ (-u) * (t - x) := Int.mul_nonneg (by omega) (by omega)
    have h2 : 0 ≤ (-u) * (t + x) := Int.mul_nonneg (by omega) (by omega)
    rw [Int.mul_sub, Int.neg_mul, Int.neg_mul] at h1; rw [Int.mul_add, Int.neg_mul, Int.neg_mul] at h2
    rw [Int.mul_neg, Int.mul_comm t u]; omega
def Within (B : Int) (l : List S23) : Prop := ∀ p ∈ l, (-B ≤ p.f0 ∧ p.f0 ≤ B) ∧ (-B ≤ p.f1 ∧ p.f1 ≤ B)
theorem grow_mem {l : List S23} {t : Int} (hl : Within 16777216 l) (h0 : 0 ≤ t) (h1 : t ≤ 33554432) {q : S23} :
    q ∈ growL l t ↔ ∃ p ∈ l, q = ⟨p.f0 - t, p.f1 - t⟩ ∨ q = ⟨p.f0 - t, p.f1 + t⟩ ∨ q = ⟨p.f0 + t, p.f1 - t⟩ ∨ q = ⟨p.f0 + t, p.f1 + t⟩ := by
  unfold growL
  rw [List.mem_flatMap]
  constructor
  · rintro ⟨p, hp, hq⟩
    refine ⟨p, hp, ?_⟩
    have := hl p hp
    unfold four at hq
    rw [ww (x := -t) (by omega) (by omega), ww (x := p.f0 + -t) (by omega) (by omega), ww (x := p.f1 + -t) (by omega) (by omega), ww (x := p.f0 + t) (by omega) (by omega), ww (x := p.f1 + t) (by omega) (by omega)] at hq
    simpa only [List.mem_cons, List.not_mem_nil, or_false, ← Int.sub_eq_add_neg] using hq
  · rintro ⟨p, hp, hq⟩
    refine ⟨p, hp, ?_⟩
    have := hl p hp
    unfold four
    rw [ww (x := -t) (by omega) (by omega), ww (x := p.f0 + -t) (by omega) (by omega), ww (x := p.f1 + -t) (by omega) (by omega), ww (x := p.f0 + t) (by omega) (by omega), ww (x := p.f1 + t) (by omega) (by omega)]
    simpa only [List.mem_cons, List.not_mem_nil, or_false, ← Int.sub_eq_add_neg] using hq
theorem grow_bd {l : List S23} {t : Int} (hl : Within 16777216 l) (h0 : 0 ≤ t) (h1 : t ≤ 33554432) : Within (16777216 + t) (growL l t) := by
  intro q hq
  obtain ⟨p, hp, h⟩ := (grow_mem hl h0 h1).1 hq
  have := hl p hp
  rcases h with rfl | rfl | rfl | rfl <;> dsimp only <;> omega
theorem grow_sep {l b : List S23} {t : Int} (hl : Within 16777216 l) (h0 : 0 ≤ t) (h1 : t ≤ 33554432) {u v : Int} :
    SepD u v (growL l t) b ↔ ∀ p ∈ l, ∀ q ∈ b, dP u v p + t * reach u v < dP u v q := by
  constructor
  · intro h p hp q hq
    have key : ∃ s ∈ growL l t, dP u v s = dP u v p + t * reach u v := by
      unfold reach dP
      rcases Int.le_total 0 u with gu | gu <;> rcases Int.le_total 0 v with gv | gv
      · refine ⟨⟨p.f0 + t, p.f1 + t⟩, (grow_mem hl h0 h1).2 ⟨p, hp, by simp⟩, ?_⟩
        rw [show (u.natAbs : Int) = u by omega, show (v.natAbs : Int) = v by omega]; grind
      · refine ⟨⟨p.f0 + t, p.f1 - t⟩, (grow_mem hl h0 h1).2 ⟨p, hp, by simp⟩, ?_⟩
        rw [show (u.natAbs : Int) = u by omega, show (v.natAbs : Int) = -v by omega]; grind
      · refine ⟨⟨p.f0 - t, p.f1 + t⟩, (grow_mem hl h0 h1).2 ⟨p, hp, by simp⟩, ?_⟩
        rw [show (u.natAbs : Int) = -u by omega, show (v.natAbs : Int) = v by omega]; grind
      · refine ⟨⟨p.f0 - t, p.f1 - t⟩, (grow_mem hl h0 h1).2 ⟨p, hp, by simp⟩, ?_⟩
        rw [show (u.natAbs : Int) = -u by omega, show (v.natAbs : Int) = -v by omega]; grind
    obtain ⟨s, hs, e⟩ := key
    have := h s hs q hq
    rw [dP_dt, dP_dt, e] at this; exact this
  · intro h s hs q hq
    obtain ⟨p, hp, hc⟩ := (grow_mem hl h0 h1).1 hs
    have k := h p hp q hq
    rw [dP_dt, dP_dt]
    have : dP u v s ≤ dP u v p + t * reach u v := by
      unfold reach
      have a1 := abs_mul_le (u := u) (t := t) (x := s.f0 - p.f0) h0 (by rcases hc with rfl | rfl | rfl | rfl <;> dsimp only <;> omega)
      have a2 := abs_mul_le (u := v) (t := t) (x := s.f1 - p.f1) h0 (by rcases hc with rfl | rfl | rfl | rfl <;> dsimp only <;> omega)
      unfold dP
      rw [Int.mul_sub] at a1 a2
      rw [Int.mul_add]; omega
    omega
theorem reach_nn (u v : Int) : 0 ≤ reach u v := by unfold reach; omega
theorem grow_mono {l b : List S23} {s t : Int} (hl : Within 16777216 l) (h0 : 0 ≤ s) (hst : s ≤ t) (h1 : t ≤ 33554432) (h : SepE (growL l t) b) : SepE (growL l s) b := by
  obtain ⟨u, v, h⟩ := h
  refine ⟨u, v, (grow_sep hl h0 (by omega)).2 fun p hp q hq => ?_⟩
  have := (grow_sep hl (by omega) h1).1 h p hp q hq
  have := Int.mul_le_mul_of_nonneg_right hst (reach_nn u v)
  omega
theorem okP_within {l : List S23} (h : okP l = true) : Within 16777216 l := okP_mem.1 h
theorem grown_eq {l : List S23} {t : Int} (hne : 0 < l.length) (hlen : l.length ≤ 256) (hl : Within 16777216 l) (h0 : 0 ≤ t) (h1 : t ≤ 33554432) :
    plane_grown.f l t = some (hull (growL l t)) ∧ IsHu (growL l t) (hull (growL l t)) ∧ BdL (hull (growL l t)) := by
  have hg := grow_bd hl h0 h1
  have hlen' := growL_len l t
  have hb : BdL (growL l t) := fun q hq => by have := hg q hq; unfold Bd; omega
  have H := hull_isH (l := growL l t) (by intro e; rw [e] at hlen'; simp at hlen'; omega)
  exact ⟨corners_some (by omega) (by omega) (bnd_iff.2 hb), H, fun q hq => hb q (H.sub q hq)⟩
theorem apart_grown {a b : List S23} {t : Int} (ha : isHullV a = true) (hb : isHullV b = true) (h0 : 0 ≤ t) (h1 : t ≤ 33554432) :
    ∃ z, plane_grown.f a t = some z ∧ ∃ c, plane_apart.f z b = some c ∧ (c = true ↔ SepE (growL a t) b) := by
  have h := (isHullV_iff.1 ha).1
  obtain ⟨e, H, hz⟩ := grown_eq h.1 h.2.1 (okP_within h.2.2) h0 h1
  refine ⟨_, e, _, apart_eq H.ne (isHullV_isH hb).ne, ?_⟩
  rw [apartV_iff (isHu_self H) (isHullV_isH hb) hz (isHullV_bd hb), sepE_hull H]
def IsGap (a b : List S23) (g : Int) : Prop := (0 ≤ g ∧ g ≤ 33554432) ∧ (∀ t, 0 ≤ t → t < g → SepE (growL a t) b) ∧ (g < 33554432 → ¬ SepE (growL a g) b)
theorem Gap_loop {a b : List S23} (ha : isHullV a = true) (hb : isHullV b = true) (d : Nat) : ∀ (lo hi : Int), (hi - lo).toNat ≤ d → 0 ≤ lo → lo ≤ hi → hi ≤ 33554432 →
    (∀ t, 0 ≤ t → t < lo → SepE (growL a t) b) → (hi < 33554432 → ¬ SepE (growL a hi) b) → ∃ g, IsGap a b g ∧ Ev (fun k => plane_Gap.l0 k a b lo hi) (g, 0) := by
  induction d with
  | zero =>
    intro lo hi hd h0 h1 h2 hs hn
    obtain rfl : lo = hi := by omega
    exact ⟨lo, ⟨⟨h0, h2⟩, hs, hn⟩, Ev.step (f := fun _ => some (lo, 0)) (fun k => by simp only [plane_Gap.l0]; rw [if_neg (by omega)]) (Ev.now _)⟩
  | succ d ih =>
    intro lo hi hd h0 h1 h2 hs hn
    by_cases hlt : lo < hi
    · have em : wrap64 (Int.tdiv (wrap64 (lo + hi)) 2) = (lo + hi) / 2 := by
        rw [ww (x := lo + hi) (by omega) (by omega), Int.tdiv_eq_ediv_of_nonneg (by omega), ww (by omega) (by omega)]
      obtain ⟨m, hm⟩ : ∃ m, (lo + hi) / 2 = m := ⟨_, rfl⟩
      rw [hm] at em
      have hml : lo ≤ m := by omega
      have hmh : m < hi := by omega
      obtain ⟨z, hz, c, hc, hcs⟩ := apart_grown ha hb (t := m) (by omega) (by omega)
      have hw := okP_within (isHullV_ok ha)
      cases c with
      | true =>
        have hsep := hcs.1 rfl
        obtain ⟨g, hg, hev⟩ := ih (m + 1) hi (by omega) (by omega) (by omega) h2 (fun t ht0 ht1 => grow_mono hw ht0 (by omega) (by omega) hsep) hn
        refine ⟨g, hg, Ev.step (f := fun k => plane_Gap.l0 k a b (m + 1) hi) (fun k => ?_) hev⟩
        simp only [plane_Gap.l0]
        rw [if_pos hlt, em, hz, Option.bind_some, hc, Option.bind_some, if_pos rfl, ww (x := m + 1) (by omega) (by omega)]
      | false =>
        have hsep : ¬ SepE (growL a m) b := fun h => by simpa using hcs.2 h
        obtain ⟨g, hg, hev⟩ := ih lo m (by omega) h0 hml (by omega) hs (fun _ => hsep)
        refine ⟨g, hg, Ev.step (f := fun k => plane_Gap.l0 k a b lo m) (fun k => ?_) hev⟩
        simp only [plane_Gap.l0]
        rw [if_pos hlt, em, hz, Option.bind_some, hc, Option.bind_some, if_neg (by simp)]
    · obtain rfl : lo = hi := by omega
      exact ⟨lo, ⟨⟨h0, h2⟩, hs, hn⟩, Ev.step (f := fun _ => some (lo, 0)) (fun k => by simp only [plane_Gap.l0]; rw [if_neg (by omega)]) (Ev.now _)⟩
theorem Gap_ev {a b : List S23} (ha : isHullV a = true) (hb : isHullV b = true) : ∃ g, IsGap a b g ∧ Ev (fun k => plane_Gap.f k a b) (g, 0) := by
  obtain ⟨g, hg, hev⟩ := Gap_loop ha hb 33554432 0 33554432 (by omega) (by omega) (by omega) (by omega) (fun t h0 h1 => by omega) (fun h => by omega)
  refine ⟨g, hg, Ev.congr (fun k => ?_) hev⟩
  unfold plane_Gap.f
  rw [checkHs_two ha hb, Option.bind_some, if_pos rfl]
theorem gap_least {a b : List S23} {g h : Int} (hg : IsGap a b g) (hh : (0 ≤ h ∧ h ≤ 33554432) ∧ (h < 33554432 → ¬ SepE (growL a h) b)) : g ≤ h := by
  rcases Int.lt_or_le h g with k | k
  · exact absurd (hg.2.1 h hh.1.1 k) (hh.2 (by have := hg.1.2; omega))
  · exact k
end Go.Proofs.Ytegdcnjjelgpjaa.P
namespace Go.Proofs.Ytegdcnjjelgpjaa.P
open Go.RowKit Go.Proofs.YtegdcnjjelgpjaaW.PrintWords Go.Proofs.YtegdcnjjelgpjaaW.PrintLast Go.Proofs.YtegdcnjjelgpjaaW.PrintMore
theorem rd32_nat (l : List S32) (i : Nat) (h : i < l.length) : rd_T32 l (i : Int) = l[i] := by
  simp only [rd_T32, Int.toNat_natCast, List.getD_eq_getElem?_getD, List.getElem?_eq_getElem h, Option.getD_some]
theorem i8_range {a : Int} (h : (Lit.int .i8 a).wf = true) : -128 ≤ a ∧ a ≤ 127 := wf_i8 h
def fewL (l : List S32) (n : Nat) : List S23 := (l.take n).map fun s => ⟨s.f0, s.f1⟩
theorem few_loop (l : List S32) (n : Nat) (hn : n ≤ 1000000) (hwf : ∀ x ∈ l, wfS32 x) (d : Nat) : ∀ (i : Nat), n - i = d → i ≤ n → i ≤ l.length →
    Ev (fun k => goosenecklaw01_few.l0 k l (n : Int) (fewL l i) (i : Int)) (fewL l n) := by
  induction d with
  | zero =>
    intro i hd hi _
    have he : i = n := by omega
    subst he
    refine Ev.step (f := fun _ => some (fewL l i)) (fun k => ?_) (Ev.now _)
    simp only [goosenecklaw01_few.l0]
    by_cases h : (i : Int) < (l.length : Int)
    · rw [if_pos h, if_neg (by omega)]
    · rw [if_neg h]
  | succ d ih =>
    intro i hd hi hil
    by_cases h : i < l.length
    · refine Ev.step (fun k => ?_) (ih (i + 1) (by omega) (by omega) (by omega))
      simp only [goosenecklaw01_few.l0]
      have hw := hwf _ (List.getElem_mem h)
      have r0 := i8_range hw.1
      have r1 := i8_range hw.2
      have hlen : (fewL l i).length = i := by simp [fewL]; omega
      have hnx : fewL l (i + 1) = fewL l i ++ [⟨l[i].f0, l[i].f1⟩] := by
        simp only [fewL]; rw [List.take_add_one, List.map_append, List.getElem?_eq_getElem h]; rfl
      rw [if_pos (by omega), if_pos (by omega), if_pos (by omega), if_pos (by omega), rd32_nat l i h, w64 (x := l[i].f0) (by omega) (by omega), w64 (x := l[i].f1) (by omega) (by omega), w64 (x := (i : Int) + 1) (by omega) (by omega), hnx]
      rfl
    · refine Ev.step (f := fun _ => some (fewL l n)) (fun k => ?_) (Ev.now _)
      simp only [goosenecklaw01_few.l0]
      have : fewL l n = fewL l i := by simp only [fewL]; rw [List.take_of_length_le (by omega), List.take_of_length_le (by omega)]
      rw [if_neg (by omega), this]
theorem few_ev (l : List S32) (n : Nat) (hn : n ≤ 1000000) (hwf : ∀ x ∈ l, wfS32 x) : Ev (fun k => goosenecklaw01_few.f k l (n : Int)) (fewL l n) := by
  have := few_loop l n hn hwf n 0 (by omega) (by omega) (by omega)
  simpa [goosenecklaw01_few.f, fewL] using this
theorem few_small (l : List S32) (n : Nat) (hwf : ∀ x ∈ l, wfS32 x) : (fewL l n).length ≤ n ∧ ∀ p ∈ fewL l n, (-128 ≤ p.f0 ∧ p.f0 ≤ 127) ∧ (-128 ≤ p.f1 ∧ p.f1 ≤ 127) := by
  refine ⟨by simp [fewL]; omega, fun p hp => ?_⟩
  simp only [fewL, List.mem_map] at hp
  obtain ⟨s, hs, rfl⟩ := hp
  have hw := hwf s (List.mem_of_mem_take hs)
  exact ⟨i8_range hw.1, i8_range hw.2⟩
end Go.Proofs.Ytegdcnjjelgpjaa.P
