/- The law PlaneMeets answers true at every input and leaves its arguments as they were; no condition. Part 2 of 6. -/
import Derived.Test.YtegdcnjjelgpjaaCPlaneMeets0
import Derived.Sort.LoopGhostIn
import Derived.Shelf.SlSortCmp.NoneTotal
import Derived.Shelf.SlicesQ.Reverse
import Derived.Lib.SliceRun
import Derived.WalkSpells
set_option linter.unusedVariables false
set_option linter.unusedSimpArgs false
namespace Go.Proofs.Ytegdcnjjelgpjaa.P
open Go.RowKit Go.Shelf Go.Proofs.Ytegdcnjjelgpjaa.O Go.Proofs.YtegdcnjjelgpjaaW.PrintWords Go.Proofs.YtegdcnjjelgpjaaW.PrintLast Go.Proofs.YtegdcnjjelgpjaaW.PrintMore
attribute [local go_sem] Oper.semAt_some
set_option linter.unusedVariables false
set_option linter.unusedSimpArgs false
theorem wpOpIn_not {F : Fence} {n : Nat} {P : Program} {ops : Array Oper} {Q : Exit → Act → World → Prop} {i : Nat} {o : Oper} {a : Act} {w : World} {K : Act → World → Prop} (ho : ops[i]? = some o) (hw : Region.wanted o (yielded ops a.tmps) = false) (h1 : ∀ f, o.about P w a.eval = some f → F.fn f) (h : K (a.put o.dst undef) w) : wpOpIn F n P ops Q i K a w := by
 unfold wpOpIn; simp only [ho, hw, Bool.false_eq_true, if_false]; exact ⟨h1, h⟩
def DropFn (g : Nat) (bad : S23 → S23 → S23 → Bool) : Prop :=
 (∀ args w, (callFunc g args).run Try.prog w = .ok (.enter g args) w) ∧ ∀ a b c W, Calls Try.prog g #[.agg #[.int .i64 a.f0, .int .i64 a.f1], .agg #[.int .i64 b.f0, .int .i64 b.f1], .agg #[.int .i64 c.f0, .int .i64 c.f1]] W fun e W' => e = .returned (.bool (bad a b c)) ∧ Below W.heap.size W W'
theorem chain_snoc (bad : S23 → S23 → S23 → Bool) (x : S23) : ∀ (l st : List S23), Geo.chain bad (l ++ [x]) st = x :: Geo.pop bad x (Geo.chain bad l st)
 | [], st => rfl
 | y :: l, st => by rw [List.cons_append, Geo.chain, chain_snoc bad x l, Geo.chain]
theorem pop_len (bad : S23 → S23 → S23 → Bool) (x : S23) (st : List S23) : (Geo.pop bad x st).length ≤ st.length := (Geo.pop_sub bad x st).length_le
theorem chain_len (bad : S23 → S23 → S23 → Bool) : ∀ (l st : List S23), (Geo.chain bad l st).length ≤ l.length + st.length
 | [], st => by simp [Geo.chain]
 | y :: l, st => by
  rw [Geo.chain]
  have := chain_len bad l (y :: Geo.pop bad y st)
  have := pop_len bad y st
  simp at *; omega
def outLen (B : Nat) (W : World) : Nat := match W.cell? ⟨B, 0, none⟩ with
 | some (.slice _ n _) => n
 | _ => 0
structure SInv (bad : S23 → S23 → S23 → Bool) (df B D Bx : Nat) (w0 V : World) (x : S23) (st0 st : List S23) (W : World) : Prop where
 pop : Geo.pop bad x st = Geo.pop bad x st0
 len : st.length ≤ st0.length
 out : ∃ v, W.heap[B + 1]? = some (.cells #[v] 53 (0, 0)) ∧ OutV W (D + 2) v st.reverse ∧ ∀ k, v.ownBlock = some k → k ≠ Bx
 hd : W.heap[B]? = some (.cells #[.func (.func df) #[] #[]] 118 (0, 0))
 hx : W.heap[Bx]? = some (.cells #[.int .i64 x.f0, .int .i64 x.f1] 23 (0, 0))
 below : Below B w0 W
 recs : Recs D V W
 size : D + 2 ≤ W.heap.size
 vb : Below B V W
theorem SInv.step {bad : S23 → S23 → S23 → Bool} {df B D Bx : Nat} {w0 V : World} {x : S23} {st0 st : List S23} {W W1 : World} (h : SInv bad df B D Bx w0 V x st0 st W) (hB : B + 2 = D) (hb : Below W.heap.size W W1) : SInv bad df B D Bx w0 V x st0 st W1 := by
 obtain ⟨v, h1, h2, h3⟩ := h.out
 have hs := h.size
 have hz := hb.size
 exact ⟨h.pop, h.len, ⟨v, keep_below hb (blk_lt h1) h1, h2.block fun k hk => hb.block k (h2.lt k hk).1, h3⟩, keep_below hb (blk_lt h.hd) h.hd, keep_below hb (blk_lt h.hx) h.hx, h.below.trans (hb.mono (by omega)), h.recs.trans (Recs.below hb hs), by omega, h.vb.trans (hb.mono (by omega))⟩
theorem SInv.put {bad : S23 → S23 → S23 → Bool} {df B D Bx : Nat} {w0 V : World} {x : S23} {st0 st st1 : List S23} {W : World} (h : SInv bad df B D Bx w0 V x st0 st W) (hB : B + 2 = D) (hx : B + 2 ≤ Bx) (v1 : Value) (hp : Geo.pop bad x st1 = Geo.pop bad x st0) (hl : st1.length ≤ st0.length)
  (ho : OutV W (D + 2) v1 st1.reverse) (hk : ∀ k, v1.ownBlock = some k → k ≠ Bx) : SInv bad df B D Bx w0 V x st0 st1 (W.setCell ⟨B + 1, 0, none⟩ v1) := by
 obtain ⟨v, h1, h2, h3⟩ := h.out
 have hs := h.size
 have far : ∀ k, k ≠ B + 1 → (W.setCell ⟨B + 1, 0, none⟩ v1).heap[k]? = W.heap[k]? := fun k hk => Below.heap_setCell _ _ _ _ hk
 have hbb : Below B W (W.setCell ⟨B + 1, 0, none⟩ v1) := (Below.refl B W).setCell (p := ⟨B + 1, 0, none⟩) (by simp) _
 exact ⟨hp, hl, ⟨v1, blk_set h1 0 v1, ho.block fun k hk => far k (by have := (ho.lt k hk).2; omega), hk⟩, (far _ (by omega)).trans h.hd, (far _ (by omega)).trans h.hx, h.below.trans hbb, h.recs.trans (Recs.setCell _ _ _ (by simp; omega) (by simp; omega)), by rw [World.size_setCell]; omega, h.vb.trans hbb⟩
theorem SInv.push {bad : S23 → S23 → S23 → Bool} {df B D Bx : Nat} {w0 V : World} {x : S23} {st0 st : List S23} {W W2 : World} {v v' : Value} (h : SInv bad df B D Bx w0 V x st0 st W) (hB : B + 2 = D) (hv : W.heap[B + 1]? = some (.cells #[v] 53 (0, 0)))
  (hg : W.grownBy W2 v.ownBlock) (ho2 : OutV W2 (D + 2) v' (st.reverse ++ [x])) :
  Below B V (W2.setCell ⟨B + 1, 0, none⟩ v') ∧ Recs D V (W2.setCell ⟨B + 1, 0, none⟩ v') ∧ (Below B w0 (W2.setCell ⟨B + 1, 0, none⟩ v') ∧ D ≤ (W2.setCell ⟨B + 1, 0, none⟩ v').heap.size ∧ (W2.setCell ⟨B + 1, 0, none⟩ v').heap[B]? = some (.cells #[.func (.func df) #[] #[]] 118 (0, 0)) ∧
   ∃ v1, (W2.setCell ⟨B + 1, 0, none⟩ v').heap[B + 1]? = some (.cells #[v1] 53 (0, 0)) ∧ OutV (W2.setCell ⟨B + 1, 0, none⟩ v') (D + 2) v1 (x :: st).reverse) := by
 obtain ⟨v0, h1, h2, h3⟩ := h.out
 obtain rfl : v0 = v := by
  have e := h1.symm.trans hv
  simp only [Option.some.injEq, Obj.cells.injEq, Array.mk.injEq, List.cons.injEq, and_true] at e
  exact e
 have hrow : ∀ k, v0.ownBlock = some k → D + 2 ≤ k := fun k hk => (h2.lt k hk).2
 have hs := h.size
 have hz := hg.size
 have far : ∀ k, k ≠ B + 1 → (W2.setCell ⟨B + 1, 0, none⟩ v').heap[k]? = W2.heap[k]? := fun k hk => Below.heap_setCell _ _ _ _ hk
 have hbb : Below B W2 (W2.setCell ⟨B + 1, 0, none⟩ v') := (Below.refl B W2).setCell (p := ⟨B + 1, 0, none⟩) (by simp) _
 have hgb : Below B W W2 := (Below.refl B W).grown hg (by omega) fun k hk => by have := hrow k hk; omega
 have hlt1 := blk_lt h1
 have b1 : W2.heap[B + 1]? = some (.cells #[v0] 53 (0, 0)) := (hg.block _ hlt1 fun e => by have := hrow _ e.symm; omega).trans h1
 refine ⟨(h.vb.trans hgb).trans hbb, (h.recs.trans (Recs.grown hg hs (fun e => by have := hrow _ e.symm; omega) (fun e => by have := hrow _ e.symm; omega))).trans (Recs.setCell _ _ _ (by simp; omega) (by simp; omega)), (h.below.trans hgb).trans hbb, by rw [World.size_setCell]; omega, ?_, v', blk_set b1 0 v', ?_⟩
 ·rw [far _ (by omega)]
  exact (hg.block _ (blk_lt h.hd) fun e => by have := hrow _ e.symm; omega).trans h.hd
 ·rw [List.reverse_cons]
  exact ho2.block fun k hk => far k (by have := (ho2.lt k hk).2; omega)
set_option maxRecDepth 100000 in
set_option maxHeartbeats 4000000 in
theorem stack_in (gf df : Nat) (lb : Array Value) (L : List S23) (bad : S23 → S23 → S23 → Bool) (w0 : World)
  (hg : ∀ args w, (callFunc gf args).run Try.prog w = .ok (.enter gf args) w) (hseq : SeqS Try.prog gf lb ptV L w0) (hd : DropFn df bad) (hL : L.length < 8796093022208) :
  CallsIn Fence.wide 0 Try.prog 113 #[.func (.func gf) #[] lb, .func (.func df) #[] #[]] w0 fun e W' => ∃ v, e = .returned v ∧ OutV W' w0.heap.size v (Geo.chain bad L []).reverse ∧ Below w0.heap.size w0 W' := by
 have hu23 := Try.underlying23
 obtain ⟨w1, hw1⟩ : ∃ w1, (w0.alloc (.cells #[.func (.func df) #[] #[]] 118 (0, 0))).alloc (.cells #[.slice none 0 0] 53 (0, 0)) = w1 := ⟨_, rfl⟩
 have hb1 : Below w0.heap.size w0 w1 := by rw [← hw1]; exact ((Below.refl _ _).alloc (Nat.le_refl _) _).alloc (by simp) _
 have hz1 : w1.heap.size = w0.heap.size + 2 := by rw [← hw1]; simp
 have h1 : w1.heap[w0.heap.size]? = some (.cells #[.func (.func df) #[] #[]] 118 (0, 0)) := by rw [← hw1]; exact blk_alloc (blk_new _ _) _
 have h2 : w1.heap[w0.heap.size + 1]? = some (.cells #[.slice none 0 0] 53 (0, 0)) := by
  rw [← hw1]; have := blk_new (w0.alloc (.cells #[.func (.func df) #[] #[]] 118 (0, 0))) (.cells #[.slice none 0 0] 53 (0, 0)); rwa [World.size_alloc] at this
 refine callsIn_of_wp_marks Try.func113 rfl trivial ?_ rfl
 simp only [Try.ntmps113, List.size_toArray, List.length_cons, List.length_nil, Nat.reduceAdd, Nat.reduceSub, Array.replicate_succ, Array.replicate_zero, List.push_toArray, List.append_toArray, List.nil_append, List.cons_append]
 gi_wp2
 obtain ⟨D, hD⟩ : ∃ D, w1.heap.size = D := ⟨_, rfl⟩
 refine wpIn_rangeFunc_S (gf := gf) (lb := lb) rfl hg (encs := ptV) (L := L) (w0 := w0) hseq hb1 (fun _ => rfl)
  (fun pre V => Below w0.heap.size w0 V ∧ w1.heap.size ≤ V.heap.size ∧ V.heap[w0.heap.size]? = some (.cells #[.func (.func df) #[] #[]] 118 (0, 0)) ∧ ∃ v, V.heap[w0.heap.size + 1]? = some (.cells #[v] 53 (0, 0)) ∧ OutV V (w1.heap.size + 2) v (Geo.chain bad pre []).reverse)
  (fun _ _ => False) ?hI (fun _ _ _ h _ => h.elim) ?hIp (fun _ _ _ _ h _ => h.elim) ⟨hb1, Nat.le_refl _, h1, _, h2, .inl ⟨rfl, rfl⟩⟩
  (fun x a' V => ∃ Bx, w1.heap.size + 2 ≤ Bx ∧ V.heap[Bx]? = some (.cells #[.int .i64 x.f0, .int .i64 x.f1] 23 (0, 0)) ∧ (∀ v, V.heap[w0.heap.size + 1]? = some (.cells #[v] 53 (0, 0)) → ∀ k, v.ownBlock = some k → k ≠ Bx) ∧ a' = { tmps := (.func (.func gf) #[] lb :: .func (.func df) #[] #[] :: undef :: .pointer (some ⟨w0.heap.size, 0, none⟩) :: .slice none 0 0 :: .pointer (some ⟨w0.heap.size + 1, 0, none⟩) :: .pointer (some ⟨Bx, 0, none⟩) :: .func (.func gf) #[] lb :: .agg #[.int .i64 x.f0, .int .i64 x.f1] :: undef :: undef :: undef :: undef :: undef :: undef :: undef :: undef :: undef :: undef :: undef :: undef :: undef :: undef :: undef :: undef :: undef :: undef :: undef :: undef :: undef :: undef :: undef :: undef :: undef :: undef :: undef :: undef :: undef :: undef :: []).toArray, defers := [] })
  ?hAx ?assign ?body ?done ?stop
 case hI =>
  rintro s A B ⟨g1, g2, g3, v, g4, g5⟩ hb
  have := hb.size
  exact ⟨g1.trans (hb.mono (by omega)), by omega, keep_below hb (by omega) g3, v, keep_below hb (by omega) g4, g5.block fun k hk => hb.block k (g5.lt k hk).1⟩
 case hIp =>
  rintro s W o r ⟨g1, g2, g3, v, g4, g5⟩ hr
  exact ⟨g1.trans (below_putObj _ _ (by omega)), by simpa using g2, (World.putObj_heap_other (by omega)).trans g3, v, (World.putObj_heap_other (by omega)).trans g4, g5.block fun k hk => World.putObj_heap_other (by have := (g5.lt k hk).2; omega)⟩
 case hAx =>
  rintro x a' V r o ⟨Bx, hB, hx, hne, rfl⟩ hr
  exact ⟨Bx, hB, (World.putObj_heap_other (by omega)).trans hx, fun v hv => hne v ((World.putObj_heap_other (by omega)).symm.trans hv), rfl⟩
 case assign =>
  rintro l' pre x V K ⟨g1, g2, g3, v, g4, g5⟩ hpre hz hK
  dsimp only [ptV]
  gi_wp2
  refine hK _ _ ((Below.refl _ _).alloc (Nat.le_refl _) _) ⟨V.heap.size, hz, blk_new _ _, fun v' hv' k hk => ?_, rfl⟩
  have e := (blk_alloc g4 _).symm.trans hv'
  simp only [Option.some.injEq, Obj.cells.injEq, Array.mk.injEq, List.cons.injEq, and_true] at e
  subst e
  have := (g5.lt k hk).1
  omega
 case body =>
  rintro l' pre x a' V ⟨g1, g2, g3, v0, g4, g5⟩ hpre hz ⟨Bx, hBx, hx, hne, rfl⟩
  have hlen := hpre.length_le
  have hcl := chain_len bad pre []
  rw [List.length_append, List.length_singleton] at hlen
  have hsnoc := chain_snoc bad x pre []
  obtain ⟨st0, hst0⟩ : ∃ s, Geo.chain bad pre [] = s := ⟨_, rfl⟩
  rw [hst0] at hsnoc g5 hcl
  have hpl := pop_len bad x st0
  have hS0 : SInv bad df w0.heap.size w1.heap.size Bx w0 V x st0 st0 V := ⟨rfl, Nat.le_refl _, ⟨v0, g4, g5, hne v0 g4⟩, g3, hx, g1, Recs.refl _ _, hz, Below.refl _ _⟩
  have HSN := Aside0.mk hsnoc
  have HPL := Aside0.mk (show (Geo.pop bad x st0).length + 1 ≤ 8796093022208 by simp at hcl; omega)
  clear hst0 hcl hsnoc hpl hlen g1 g2 g3 g4 g5 hx hne hpre h1 h2
  gi_wp2
  gi_loopw [9] (fun _ wr => ∃ st, Aside0 (SInv bad df w0.heap.size w1.heap.size Bx w0 V x st0 st wr)) (fun _ wr => outLen (w0.heap.size + 1) wr)
  case atStart => exact ⟨st0, ⟨hS0⟩⟩
  case round =>
   obtain ⟨st, hS⟩ := hrel
   obtain ⟨v, k1, ho, hk⟩ := hS.out.out
   have k2 := hS.out.hd
   have kx := hS.out.hx
   have c1 := (blk_cell k1 0).trans (rfl : _ = some v)
   have K1 := Aside0.mk k1
   have K2 := Aside0.mk k2
   have KX := Aside0.mk kx
   clear k1 k2 kx hk
   by_cases hshort : st.length < 2
   ·obtain ⟨sa, n, cap, rfl, hn⟩ : ∃ sa n cap, v = .slice sa n cap ∧ n < 2 := by
     rcases ho with ⟨rfl, _⟩ | ⟨g, cap, rfl, _⟩
     ·exact ⟨none, 0, 0, rfl, by omega⟩
     ·exact ⟨_, _, cap, rfl, by simpa using hshort⟩
    have hpop : Geo.pop bad x st = st := by
     match st, hshort with
     | [], _ => rfl
     | [_], _ => rfl
     | _ :: _ :: _, h => simp at h; omega
    have g2 : ¬ (2 : Int) ≤ (n : Int) := by omega
    have g3 : decide ((2 : Int) ≤ (n : Int)) = false := decide_eq_false g2
    have g4 : decide (2 ≤ n) = false := decide_eq_false (by omega)
    have g5 : n < 2 := hn
    clear ho
    gi_wp2
    refine wpIn_region_any (by kernel_rfl) ?_
    change wpAnyIn _ _ _ _ _ _ _ _ _ (World.drew wr)
    refine wpAnyIn_inv (fun listed a V' => a = { tmps := (.func (.func gf) #[] lb :: .func (.func df) #[] #[] :: undef :: .pointer (some ⟨w0.heap.size, 0, none⟩) :: .slice none 0 0 :: .pointer (some ⟨w0.heap.size + 1, 0, none⟩) :: .pointer (some ⟨Bx, 0, none⟩) :: .func (.func gf) #[] lb :: .agg #[.int .i64 x.f0, .int .i64 x.f1] :: selOr listed 0 (.slice sa n cap) u9 :: selOr listed 1 (.int .i64 (n : Int)) u10 :: selOr listed 2 (.bool false) u11 :: selOr listed 3 (.bool false) u12 :: selOr listed 4 (undef) u13 :: selOr listed 5 (undef) u14 :: selOr listed 6 (undef) u15 :: selOr listed 7 (undef) u16 :: selOr listed 8 (undef) u17 :: selOr listed 9 (undef) u18 :: selOr listed 10 (undef) u19 :: selOr listed 11 (undef) u20 :: selOr listed 12 (undef) u21 :: selOr listed 13 (undef) u22 :: selOr listed 14 (undef) u23 :: selOr listed 15 (undef) u24 :: selOr listed 16 (undef) u25 :: selOr listed 17 (undef) u26 :: selOr listed 18 (undef) u27 :: selOr listed 19 (.bool false) u28 :: u29 :: u30 :: u31 :: u32 :: u33 :: undef :: undef :: undef :: undef :: undef :: []).toArray, defers := [] } ∧ Below wr.heap.size wr V') 27 ?stepq ?stopq ?finq 20 _ _ _ (by simp) (closed_none _) ⟨by simp [selOr], (Below.refl _ _).drew⟩ (by simp)
    case stopq =>
     intro listed a V' fuel hs hc hi hr
     have := (ready_lt hr).1
     simp at hs
     omega
    case stepq =>
     rintro listed a V' i hs hc ⟨rfl, q1⟩ hr hne K hK
     obtain ⟨hlt', hl0⟩ := ready_lt hr
     have cc1 := (q1.cell (p := ⟨w0.heap.size + 1, 0, none⟩) (blk_lt K1.out)).trans c1
     clear c1
     have hi : i = 0 ∨ i = 1 ∨ i = 2 ∨ i = 3 ∨ i = 4 ∨ i = 5 ∨ i = 6 ∨ i = 7 ∨ i = 8 ∨ i = 9 ∨ i = 10 ∨ i = 11 ∨ i = 12 ∨ i = 13 ∨ i = 14 ∨ i = 15 ∨ i = 16 ∨ i = 17 ∨ i = 18 ∨ i = 19 := by simp at hs; omega
     rcases hi with rfl | rfl | rfl | rfl | rfl | rfl | rfl | rfl | rfl | rfl | rfl | rfl | rfl | rfl | rfl | rfl | rfl | rfl | rfl | rfl
     ·skip
      refine wpOpIn_of rfl rfl ?_
      clear hr hl0
      gi_wp2
      refine ⟨?_, q1⟩
      simp (disch := decide) only [selOr_same hlt', selOr_other hlt']
     ·have d0 := rdD 0 hr
      simp only [selOr_on d0]
      refine wpOpIn_of rfl rfl ?_
      clear hr hl0
      gi_wp2
      refine ⟨?_, q1⟩
      simp (disch := decide) only [selOr_same hlt', selOr_other hlt', selOr_on d0]
     ·have d1 := rdD 1 hr
      simp only [selOr_on d1]
      refine wpOpIn_of rfl rfl ?_
      clear hr hl0
      gi_wp2
      refine ⟨?_, q1⟩
      simp (disch := decide) only [selOr_same hlt', selOr_other hlt', selOr_on d1]
     ·have d2 := rdD 2 hr
      simp only [selOr_on d2]
      refine wpOpIn_of rfl rfl ?_
      clear hr hl0
      gi_wp2
      refine ⟨?_, q1⟩
      simp (disch := decide) only [selOr_same hlt', selOr_other hlt', selOr_on d2]
     ·have d3 := rdD 3 hr
      simp only [selOr_on d3]
      refine wpOpIn_not rfl rfl (fun _ _ => trivial) (hK _ _ ⟨?_, q1⟩)
      show Act.put _ (some 13) _ = _
      simp only [Act.put, List.setIfInBounds_toArray, List.set_cons_zero, List.set_cons_succ]
      simp (disch := decide) only [selOr_same hlt', selOr_other hlt', selOr_on d3]
     ·have d3 := rdD 3 hr
      simp only [selOr_on d3]
      refine wpOpIn_not rfl rfl (fun _ _ => trivial) (hK _ _ ⟨?_, q1⟩)
      show Act.put _ (some 14) _ = _
      simp only [Act.put, List.setIfInBounds_toArray, List.set_cons_zero, List.set_cons_succ]
      simp (disch := decide) only [selOr_same hlt', selOr_other hlt', selOr_on d3]
     ·have d3 := rdD 3 hr
      simp only [selOr_on d3]
      refine wpOpIn_not rfl rfl (fun _ _ => trivial) (hK _ _ ⟨?_, q1⟩)
      show Act.put _ (some 15) _ = _
      simp only [Act.put, List.setIfInBounds_toArray, List.set_cons_zero, List.set_cons_succ]
      simp (disch := decide) only [selOr_same hlt', selOr_other hlt', selOr_on d3]
     ·have d3 := rdD 3 hr
      simp only [selOr_on d3]
      refine wpOpIn_not rfl rfl (fun _ _ => trivial) (hK _ _ ⟨?_, q1⟩)
      show Act.put _ (some 16) _ = _
      simp only [Act.put, List.setIfInBounds_toArray, List.set_cons_zero, List.set_cons_succ]
      simp (disch := decide) only [selOr_same hlt', selOr_other hlt', selOr_on d3]
     ·have d3 := rdD 3 hr
      simp only [selOr_on d3]
      refine wpOpIn_not rfl rfl (fun _ _ => trivial) (hK _ _ ⟨?_, q1⟩)
      show Act.put _ (some 17) _ = _
      simp only [Act.put, List.setIfInBounds_toArray, List.set_cons_zero, List.set_cons_succ]
      simp (disch := decide) only [selOr_same hlt', selOr_other hlt', selOr_on d3]
     ·have d3 := rdD 3 hr
      simp only [selOr_on d3]
      refine wpOpIn_not rfl rfl (fun _ _ => trivial) (hK _ _ ⟨?_, q1⟩)
      show Act.put _ (some 18) _ = _
      simp only [Act.put, List.setIfInBounds_toArray, List.set_cons_zero, List.set_cons_succ]
      simp (disch := decide) only [selOr_same hlt', selOr_other hlt', selOr_on d3]
     ·have d3 := rdD 3 hr
      simp only [selOr_on d3]
      refine wpOpIn_not rfl rfl (fun _ _ => trivial) (hK _ _ ⟨?_, q1⟩)
      show Act.put _ (some 19) _ = _
      simp only [Act.put, List.setIfInBounds_toArray, List.set_cons_zero, List.set_cons_succ]
      simp (disch := decide) only [selOr_same hlt', selOr_other hlt', selOr_on d3]
     ·have d3 := rdD 3 hr
      simp only [selOr_on d3]
      refine wpOpIn_not rfl rfl (fun _ _ => trivial) (hK _ _ ⟨?_, q1⟩)
      show Act.put _ (some 20) _ = _
      simp only [Act.put, List.setIfInBounds_toArray, List.set_cons_zero, List.set_cons_succ]
      simp (disch := decide) only [selOr_same hlt', selOr_other hlt', selOr_on d3]
     ·have d3 := rdD 3 hr
      simp only [selOr_on d3]
      refine wpOpIn_not rfl rfl (fun _ _ => trivial) (hK _ _ ⟨?_, q1⟩)
      show Act.put _ (some 21) _ = _
      simp only [Act.put, List.setIfInBounds_toArray, List.set_cons_zero, List.set_cons_succ]
      simp (disch := decide) only [selOr_same hlt', selOr_other hlt', selOr_on d3]
     ·have d3 := rdD 3 hr
      simp only [selOr_on d3]
      refine wpOpIn_not rfl rfl (fun _ _ => trivial) (hK _ _ ⟨?_, q1⟩)
      show Act.put _ (some 22) _ = _
      simp only [Act.put, List.setIfInBounds_toArray, List.set_cons_zero, List.set_cons_succ]
      simp (disch := decide) only [selOr_same hlt', selOr_other hlt', selOr_on d3]
     ·have d3 := rdD 3 hr
      simp only [selOr_on d3]
      refine wpOpIn_not rfl rfl (fun _ _ => trivial) (hK _ _ ⟨?_, q1⟩)
      show Act.put _ (some 23) _ = _
      simp only [Act.put, List.setIfInBounds_toArray, List.set_cons_zero, List.set_cons_succ]
      simp (disch := decide) only [selOr_same hlt', selOr_other hlt', selOr_on d3]
     ·have d3 := rdD 3 hr
      simp only [selOr_on d3]
      refine wpOpIn_not rfl rfl (fun _ _ => trivial) (hK _ _ ⟨?_, q1⟩)
      show Act.put _ (some 24) _ = _
      simp only [Act.put, List.setIfInBounds_toArray, List.set_cons_zero, List.set_cons_succ]
      simp (disch := decide) only [selOr_same hlt', selOr_other hlt', selOr_on d3]
     ·have d3 := rdD 3 hr
      simp only [selOr_on d3]
      refine wpOpIn_not rfl rfl (fun _ _ => trivial) (hK _ _ ⟨?_, q1⟩)
      show Act.put _ (some 25) _ = _
      simp only [Act.put, List.setIfInBounds_toArray, List.set_cons_zero, List.set_cons_succ]
      simp (disch := decide) only [selOr_same hlt', selOr_other hlt', selOr_on d3]
     ·have d3 := rdD 3 hr
      simp only [selOr_on d3]
      refine wpOpIn_not rfl rfl (fun _ _ => trivial) (hK _ _ ⟨?_, q1⟩)
      show Act.put _ (some 26) _ = _
      simp only [Act.put, List.setIfInBounds_toArray, List.set_cons_zero, List.set_cons_succ]
      simp (disch := decide) only [selOr_same hlt', selOr_other hlt', selOr_on d3]
     ·have d3 := rdD 3 hr
      simp only [selOr_on d3]
      refine wpOpIn_not rfl rfl (fun _ _ => trivial) (hK _ _ ⟨?_, q1⟩)
      show Act.put _ (some 27) _ = _
      simp only [Act.put, List.setIfInBounds_toArray, List.set_cons_zero, List.set_cons_succ]
      simp (disch := decide) only [selOr_same hlt', selOr_other hlt', selOr_on d3]
     ·have d3 := rdD 3 hr
      have d18 := rdD 18 hr
      simp only [selOr_on d3, selOr_on d18]
      refine wpOpIn_of rfl rfl ?_
      clear hr hl0
      gi_wp2
      refine ⟨?_, q1⟩
      simp (disch := decide) only [selOr_same hlt', selOr_other hlt', selOr_on d3, selOr_on d18]
    case finq =>
     rintro listed a V' hs ⟨rfl, q1⟩ hr
     have all : ∀ j, j < 20 → listed.getD j false = true := fun j hj => by
      cases q : listed.getD j false
      ·exact absurd hr (ready_ne hs (by kernel_rfl) j (by simpa using hj) q)
      ·rfl
     simp only [selOr_on (all 0 (by decide)), selOr_on (all 1 (by decide)), selOr_on (all 2 (by decide)), selOr_on (all 3 (by decide)), selOr_on (all 4 (by decide)), selOr_on (all 5 (by decide)), selOr_on (all 6 (by decide)), selOr_on (all 7 (by decide)), selOr_on (all 8 (by decide)), selOr_on (all 9 (by decide)), selOr_on (all 10 (by decide)), selOr_on (all 11 (by decide)), selOr_on (all 12 (by decide)), selOr_on (all 13 (by decide)), selOr_on (all 14 (by decide)), selOr_on (all 15 (by decide)), selOr_on (all 16 (by decide)), selOr_on (all 17 (by decide)), selOr_on (all 18 (by decide)), selOr_on (all 19 (by decide))]
     clear all hr hs
     have HQ1 := Aside0.mk q1
     have hS1 := hS.out.step (by omega) q1
     clear q1 hS
     have hbase : w1.heap.size + 2 ≤ V'.heap.size := hS1.size
     obtain ⟨v1, k1', ho1, hne1⟩ := hS1.out
     obtain rfl : v1 = .slice sa n cap := by
      have e := ((HQ1.out.block _ (blk_lt K1.out)).trans K1.out).symm.trans k1'
      simp only [Option.some.injEq, Obj.cells.injEq, Array.mk.injEq, List.cons.injEq, and_true] at e
      exact e.symm
     have co := (blk_cell k1' 0).trans (rfl : _ = some (Value.slice sa n cap))
     have ⟨y0, y1⟩ : V'.cell? ⟨Bx, 0, none⟩ = some (.int .i64 x.f0) ∧ V'.cell? ⟨Bx, 1, none⟩ = some (.int .i64 x.f1) := ⟨(blk_cell hS1.hx 0).trans rfl, (blk_cell hS1.hx 1).trans rfl⟩
     have hS2 := hS1.step (by omega) ((Below.refl _ _).alloc (Nat.le_refl _) (.cells #[.int .i64 x.f0, .int .i64 x.f1] 23 (0, 0)))
     have ho2 : OutV (V'.alloc (.cells #[.int .i64 x.f0, .int .i64 x.f1] 23 (0, 0))) (w1.heap.size + 2) (.slice sa n cap) st.reverse := ho1.block fun k hk => Below.heap_alloc _ _ _ (ho1.lt k hk).1
     have kx := blk_new V' (.cells #[.int .i64 x.f0, .int .i64 x.f1] 23 (0, 0))
     have kv := blk_alloc k1' (.cells #[.int .i64 x.f0, .int .i64 x.f1] 23 (0, 0))
     have fx := blk_frozen k1' 0
     have HS2 := Aside0.mk hS2
     have HO2 := Aside0.mk ho2
     have HKX := Aside0.mk kx
     have HKV := Aside0.mk kv
     have HLN := Aside0.mk (show st.reverse.length + 1 ≤ 8796093022208 by rw [List.length_reverse, ← hpop]; have := HPL.out; rw [← hS1.pop] at this; exact this)
     have HCH := Aside0.mk (show Geo.chain bad (pre ++ [x]) [] = x :: st by rw [HSN.out, ← hS1.pop, hpop])
     clear hS1 k1' ho1 hne1 hS2 ho2 kx kv hpop
     gi_wp2_with (gi_at_builtin; refine wpListIn_append_pt _ rfl _ _ rfl (w1.heap.size + 2) _ st.reverse rfl HO2.out V'.heap.size 1 x rfl ((blk_cell HKX.out 0).trans rfl) ((blk_cell HKX.out 1).trans rfl) HLN.out ?qb ?_)
     case qb => rw [World.size_alloc]; omega
     intro v' W2 ho3 hg3 _
     obtain ⟨A', ln, c', hform⟩ : ∃ A n c, v' = .slice A n c := by obtain ⟨A, c, e⟩ := ho3.form; exact ⟨A, _, c, e⟩
     subst hform
     have ho3' : OutV W2 (w1.heap.size + 2) (.slice A' ln c') (st.reverse ++ [x]) := by rw [hz1]; simpa using ho3
     have HF := HS2.out.push (by omega) HKV.out hg3 ho3'
     have cB : W2.cell? ⟨w0.heap.size + 1, 0, none⟩ = some (.slice sa n cap) := (blk_cell ((hg3.block _ (blk_lt HKV.out) fun e => by have := (HO2.out.lt _ e.symm).2; omega).trans HKV.out) 0).trans rfl
     have fB : W2.frozen? ⟨w0.heap.size + 1, 0, none⟩ = false := blk_frozen ((hg3.block _ (blk_lt HKV.out) fun e => by have := (HO2.out.lt _ e.symm).2; omega).trans HKV.out) 0
     have HF' := Aside0.mk HF
     clear HF hg3 ho3 ho3'
     gi_wp2
     dsimp only [postS]
     rw [HCH.out]
     exact HF'.out
   ·obtain ⟨yb, ya, r, rfl⟩ : ∃ yb ya r, st = yb :: ya :: r := by
     match st, hshort with
     | [], h => simp at h
     | [_], h => simp at h
     | b :: a :: r, _ => exact ⟨b, a, r, rfl⟩
    clear hshort
    rcases ho with ⟨_, h⟩ | ⟨g, cap, rfl, hgb, hrow⟩
    ·simp at h
    have hrl := hrow.le
    have e1 : (yb :: ya :: r).reverse = r.reverse ++ [ya, yb] := by simp
    have ea := hrow.cell r.length (by simp)
    have eb := hrow.cell (r.length + 1) (by simp)
    have ga : (yb :: ya :: r).reverse[r.length]'(by simp) = ya := by simp [e1]
    have gb : (yb :: ya :: r).reverse[r.length + 1]'(by simp) = yb := by simp [e1]
    rw [ga] at ea
    rw [gb] at eb
    clear ga gb e1
    obtain ⟨p, hp⟩ : ∃ p, r.length = p := ⟨_, rfl⟩
    obtain ⟨q, hq⟩ : ∃ q, p + 1 = q := ⟨_, rfl⟩
    obtain ⟨n, hn⟩ : ∃ n, (yb :: ya :: r).reverse.length = n := ⟨_, rfl⟩
    have hnq : n = q + 1 := by rw [← hn, ← hq, ← hp]; simp
    rw [hp] at ea eb
    rw [hq] at eb
    rw [hn] at c1 K1
    have hrl' : n ≤ cap ∧ cap ≤ maxLen := by rw [← hn]; exact hrl
    replace hrl := hrl'
    clear hrl'
    obtain ⟨a0, a1⟩ := ea
    obtain ⟨b0, b1⟩ := eb
    have x0 : wr.cell? ⟨Bx, 0, none⟩ = some (.int .i64 x.f0) := (blk_cell KX.out 0).trans rfl
    have x1 : wr.cell? ⟨Bx, 1, none⟩ = some (.int .i64 x.f1) := (blk_cell KX.out 1).trans rfl
    have c2 : wr.cell? ⟨w0.heap.size, 0, none⟩ = some (.func (.func df) #[] #[]) := (blk_cell K2.out 0).trans rfl
    have hm := hrl.2
    unfold maxLen at hm
    have w2 : IntKind.i64.wrap ((n : Int) - 2) = (p : Int) := by rw [i64_w]; unfold wrap64; omega
    have w3 : IntKind.i64.wrap ((n : Int) - 1) = (q : Int) := by rw [i64_w]; unfold wrap64; omega
    have w4 : wrap64 ((n : Int) - 1) = (q : Int) := by unfold wrap64; omega
    have g2 : (2 : Int) ≤ (n : Int) := by omega
    have g3 : decide ((2 : Int) ≤ (n : Int)) = true := decide_eq_true g2
    have g4 : decide (2 ≤ n) = true := decide_eq_true (by omega)
    have g5 : 2 ≤ n := by omega
    have l1 : p < n := by omega
    have l2 : q < n := by omega
    have l3 : q ≤ cap := by omega
    have he := hd.1
    have KR := Aside0.mk hrow
    have HN := Aside0.mk (And.intro hn (And.intro hp (And.intro hq (And.intro hnq (And.intro hgb hrl)))))
    clear hrow hn hp hq hnq hgb hrl hm
    gi_wp2
    refine wpIn_region_any (by kernel_rfl) ?_
    change wpAnyIn _ _ _ _ _ _ _ _ _ (World.drew wr)
    refine wpAnyIn_inv (fun listed a V' => a = { tmps := (.func (.func gf) #[] lb :: .func (.func df) #[] #[] :: undef :: .pointer (some ⟨w0.heap.size, 0, none⟩) :: .slice none 0 0 :: .pointer (some ⟨w0.heap.size + 1, 0, none⟩) :: .pointer (some ⟨Bx, 0, none⟩) :: .func (.func gf) #[] lb :: .agg #[.int .i64 x.f0, .int .i64 x.f1] :: selOr listed 0 (.slice (some ⟨g, 0, none⟩) n cap) u9 :: selOr listed 1 (.int .i64 (n : Int)) u10 :: selOr listed 2 (.bool true) u11 :: selOr listed 3 (.bool true) u12 :: selOr listed 4 (.func (.func df) #[] #[]) u13 :: selOr listed 5 (.slice (some ⟨g, 0, none⟩) n cap) u14 :: selOr listed 6 (.slice (some ⟨g, 0, none⟩) n cap) u15 :: selOr listed 7 (.int .i64 (n : Int)) u16 :: selOr listed 8 (.int .i64 (p : Int)) u17 :: selOr listed 9 (.pointer (some ⟨g, p * 2, none⟩)) u18 :: selOr listed 10 (.agg #[.int .i64 ya.f0, .int .i64 ya.f1]) u19 :: selOr listed 11 (.slice (some ⟨g, 0, none⟩) n cap) u20 :: selOr listed 12 (.slice (some ⟨g, 0, none⟩) n cap) u21 :: selOr listed 13 (.int .i64 (n : Int)) u22 :: selOr listed 14 (.int .i64 (q : Int)) u23 :: selOr listed 15 (.pointer (some ⟨g, q * 2, none⟩)) u24 :: selOr listed 16 (.agg #[.int .i64 yb.f0, .int .i64 yb.f1]) u25 :: selOr listed 17 (.agg #[.int .i64 x.f0, .int .i64 x.f1]) u26 :: selOr listed 18 (.bool (bad ya yb x)) u27 :: selOr listed 19 (.bool (bad ya yb x)) u28 :: u29 :: u30 :: u31 :: u32 :: u33 :: undef :: undef :: undef :: undef :: undef :: []).toArray, defers := [] } ∧ Below wr.heap.size wr V') 27 ?stepq ?stopq ?finq 20 _ _ _ (by simp) (closed_none _) ⟨by simp [selOr], (Below.refl _ _).drew⟩ (by simp)
    case stopq =>
     intro listed a V' fuel hs hc hi hr
     have := (ready_lt hr).1
     simp at hs
     omega
    case stepq =>
     rintro listed a V' i hs hc ⟨rfl, q1⟩ hr hne K hK
     obtain ⟨hlt', hl0⟩ := ready_lt hr
     have cc1 := (q1.cell (p := ⟨w0.heap.size + 1, 0, none⟩) (blk_lt K1.out)).trans c1
     have cc2 := (q1.cell (p := ⟨w0.heap.size, 0, none⟩) (blk_lt K2.out)).trans c2
     have cx0 := (q1.cell (p := ⟨Bx, 0, none⟩) (blk_lt KX.out)).trans x0
     have cx1 := (q1.cell (p := ⟨Bx, 1, none⟩) (blk_lt KX.out)).trans x1
     have ca0 := (q1.cell (p := ⟨g, p * 2, none⟩) KR.out.lt).trans a0
     have ca1 := (q1.cell (p := ⟨g, p * 2 + 1, none⟩) KR.out.lt).trans a1
     have cb0 := (q1.cell (p := ⟨g, q * 2, none⟩) KR.out.lt).trans b0
     have cb1 := (q1.cell (p := ⟨g, q * 2 + 1, none⟩) KR.out.lt).trans b1
     clear c1 c2 x0 x1 a0 a1 b0 b1
     have hi : i = 0 ∨ i = 1 ∨ i = 2 ∨ i = 3 ∨ i = 4 ∨ i = 5 ∨ i = 6 ∨ i = 7 ∨ i = 8 ∨ i = 9 ∨ i = 10 ∨ i = 11 ∨ i = 12 ∨ i = 13 ∨ i = 14 ∨ i = 15 ∨ i = 16 ∨ i = 17 ∨ i = 18 ∨ i = 19 := by simp at hs; omega
     rcases hi with rfl | rfl | rfl | rfl | rfl | rfl | rfl | rfl | rfl | rfl | rfl | rfl | rfl | rfl | rfl | rfl | rfl | rfl | rfl | rfl
     ·skip
      refine wpOpIn_of rfl rfl ?_
      clear hr hl0
      gi_wp2
      refine ⟨?_, q1⟩
      simp (disch := decide) only [selOr_same hlt', selOr_other hlt']
     ·have d0 := rdD 0 hr
      simp only [selOr_on d0]
      refine wpOpIn_of rfl rfl ?_
      clear hr hl0
      gi_wp2
      refine ⟨?_, q1⟩
      simp (disch := decide) only [selOr_same hlt', selOr_other hlt', selOr_on d0]
     ·have d1 := rdD 1 hr
      simp only [selOr_on d1]
      refine wpOpIn_of rfl rfl ?_
      clear hr hl0
      gi_wp2
      refine ⟨?_, q1⟩
      simp (disch := decide) only [selOr_same hlt', selOr_other hlt', selOr_on d1]
     ·have d2 := rdD 2 hr
      simp only [selOr_on d2]
      refine wpOpIn_of rfl rfl ?_
      clear hr hl0
      gi_wp2
      refine ⟨?_, q1⟩
      simp (disch := decide) only [selOr_same hlt', selOr_other hlt', selOr_on d2]
     ·have d3 := rdD 3 hr
      simp only [selOr_on d3]
      refine wpOpIn_of rfl rfl ?_
      clear hr hl0
      gi_wp2
      refine ⟨?_, q1⟩
      simp (disch := decide) only [selOr_same hlt', selOr_other hlt', selOr_on d3]
     ·have d3 := rdD 3 hr
      simp only [selOr_on d3]
      refine wpOpIn_of rfl rfl ?_
      clear hr hl0
      gi_wp2
      refine ⟨?_, q1⟩
      simp (disch := decide) only [selOr_same hlt', selOr_other hlt', selOr_on d3]
     ·have d3 := rdD 3 hr
      simp only [selOr_on d3]
      refine wpOpIn_of rfl rfl ?_
      clear hr hl0
      gi_wp2
      refine ⟨?_, q1⟩
      simp (disch := decide) only [selOr_same hlt', selOr_other hlt', selOr_on d3]
     ·have d6 := rdD 6 hr
      have d3 := rdD 3 hr
      simp only [selOr_on d6, selOr_on d3]
      refine wpOpIn_of rfl rfl ?_
      clear hr hl0
      gi_wp2
      refine ⟨?_, q1⟩
      simp (disch := decide) only [selOr_same hlt', selOr_other hlt', selOr_on d6, selOr_on d3]
     ·have d7 := rdD 7 hr
      have d3 := rdD 3 hr
      simp only [selOr_on d7, selOr_on d3]
      refine wpOpIn_of rfl rfl ?_
      clear hr hl0
      gi_wp2
      refine ⟨?_, q1⟩
      simp (disch := decide) only [selOr_same hlt', selOr_other hlt', selOr_on d7, selOr_on d3]
     ·have d5 := rdD 5 hr
      have d8 := rdD 8 hr
      have d3 := rdD 3 hr
      simp only [selOr_on d5, selOr_on d8, selOr_on d3]
      refine wpOpIn_of rfl rfl ?_
      clear hr hl0
      gi_wp2
      refine ⟨?_, q1⟩
      simp (disch := decide) only [selOr_same hlt', selOr_other hlt', selOr_on d5, selOr_on d8, selOr_on d3]
     ·have d9 := rdD 9 hr
      have d3 := rdD 3 hr
      simp only [selOr_on d9, selOr_on d3]
      refine wpOpIn_of rfl rfl ?_
      clear hr hl0
      gi_wp2
      refine ⟨?_, q1⟩
      simp (disch := decide) only [selOr_same hlt', selOr_other hlt', selOr_on d9, selOr_on d3]
     ·have d3 := rdD 3 hr
      simp only [selOr_on d3]
      refine wpOpIn_of rfl rfl ?_
      clear hr hl0
      gi_wp2
      refine ⟨?_, q1⟩
      simp (disch := decide) only [selOr_same hlt', selOr_other hlt', selOr_on d3]
     ·have d3 := rdD 3 hr
      simp only [selOr_on d3]
      refine wpOpIn_of rfl rfl ?_
      clear hr hl0
      gi_wp2
      refine ⟨?_, q1⟩
      simp (disch := decide) only [selOr_same hlt', selOr_other hlt', selOr_on d3]
     ·have d12 := rdD 12 hr
      have d3 := rdD 3 hr
      simp only [selOr_on d12, selOr_on d3]
      refine wpOpIn_of rfl rfl ?_
      clear hr hl0
      gi_wp2
      refine ⟨?_, q1⟩
      simp (disch := decide) only [selOr_same hlt', selOr_other hlt', selOr_on d12, selOr_on d3]
     ·have d13 := rdD 13 hr
      have d3 := rdD 3 hr
      simp only [selOr_on d13, selOr_on d3]
      refine wpOpIn_of rfl rfl ?_
      clear hr hl0
      gi_wp2
      refine ⟨?_, q1⟩
      simp (disch := decide) only [selOr_same hlt', selOr_other hlt', selOr_on d13, selOr_on d3]
     ·have d11 := rdD 11 hr
      have d14 := rdD 14 hr
      have d3 := rdD 3 hr
      simp only [selOr_on d11, selOr_on d14, selOr_on d3]
      refine wpOpIn_of rfl rfl ?_
      clear hr hl0
      gi_wp2
      refine ⟨?_, q1⟩
      simp (disch := decide) only [selOr_same hlt', selOr_other hlt', selOr_on d11, selOr_on d14, selOr_on d3]
     ·have d15 := rdD 15 hr
      have d3 := rdD 3 hr
      simp only [selOr_on d15, selOr_on d3]
      refine wpOpIn_of rfl rfl ?_
      clear hr hl0
      gi_wp2
      refine ⟨?_, q1⟩
      simp (disch := decide) only [selOr_same hlt', selOr_other hlt', selOr_on d15, selOr_on d3]
     ·have d3 := rdD 3 hr
      simp only [selOr_on d3]
      refine wpOpIn_of rfl rfl ?_
      clear hr hl0
      gi_wp2
      refine ⟨?_, q1⟩
      simp (disch := decide) only [selOr_same hlt', selOr_other hlt', selOr_on d3]
     ·have d4 := rdD 4 hr
      have d10 := rdD 10 hr
      have d16 := rdD 16 hr
      have d17 := rdD 17 hr
      have d3 := rdD 3 hr
      simp only [selOr_on d4, selOr_on d10, selOr_on d16, selOr_on d17, selOr_on d3]
      refine wpOpIn_of rfl rfl ?_
      clear hr hl0
      gi_wp2
      refine ⟨trivial, rfl, (CallsIn.inRound l' (callsIn_w (hd.2 ya yb x V'))).mono ?_⟩
      rintro e V5 ⟨rfl, hb5⟩
      gi_wp2
      refine ⟨?_, q1.trans (hb5.mono q1.size)⟩
      simp (disch := decide) only [selOr_same hlt', selOr_other hlt', selOr_on d4, selOr_on d10, selOr_on d16, selOr_on d17, selOr_on d3]
     ·have d3 := rdD 3 hr
      have d18 := rdD 18 hr
      simp only [selOr_on d3, selOr_on d18]
      refine wpOpIn_of rfl rfl ?_
      clear hr hl0
      gi_wp2
      refine ⟨?_, q1⟩
      simp (disch := decide) only [selOr_same hlt', selOr_other hlt', selOr_on d3, selOr_on d18]
    case finq =>
     rintro listed a V' hs ⟨rfl, q1⟩ hr
     have all : ∀ j, j < 20 → listed.getD j false = true := fun j hj => by
      cases q : listed.getD j false
      ·exact absurd hr (ready_ne hs (by kernel_rfl) j (by simpa using hj) q)
      ·rfl
     simp only [selOr_on (all 0 (by decide)), selOr_on (all 1 (by decide)), selOr_on (all 2 (by decide)), selOr_on (all 3 (by decide)), selOr_on (all 4 (by decide)), selOr_on (all 5 (by decide)), selOr_on (all 6 (by decide)), selOr_on (all 7 (by decide)), selOr_on (all 8 (by decide)), selOr_on (all 9 (by decide)), selOr_on (all 10 (by decide)), selOr_on (all 11 (by decide)), selOr_on (all 12 (by decide)), selOr_on (all 13 (by decide)), selOr_on (all 14 (by decide)), selOr_on (all 15 (by decide)), selOr_on (all 16 (by decide)), selOr_on (all 17 (by decide)), selOr_on (all 18 (by decide)), selOr_on (all 19 (by decide))]
     clear all hr hs
     by_cases hbad : bad ya yb x = true
     ·rw [hbad]
      have HS1 := Aside0.mk (hS.out.step (by omega) q1)
      have HRV := Aside0.mk (KR.out.below q1 KR.out.lt)
      have HQ1 := Aside0.mk q1
      clear q1
      obtain ⟨v1, k1', ho1, hne1⟩ := HS1.out.out
      have hpop : Geo.pop bad x (ya :: r) = Geo.pop bad x st0 := by rw [← HS1.out.pop, Geo.pop, if_pos hbad]
      have hl1 : (ya :: r).length ≤ st0.length := Nat.le_trans (by simp) HS1.out.len
      obtain rfl : v1 = .slice (some ⟨g, 0, none⟩) n cap := by
       have e := ((HQ1.out.block _ (blk_lt K1.out)).trans K1.out).symm.trans k1'
       simp only [Option.some.injEq, Obj.cells.injEq, Array.mk.injEq, List.cons.injEq, and_true] at e
       exact e.symm
      have hout : OutV V' (w1.heap.size + 2) (.slice (some ⟨g, 0, none⟩) q cap) (ya :: r).reverse := by
       obtain ⟨_, hp, hq, _, hgb, _⟩ := HN.out
       have e : (ya :: r).reverse.length = q := by rw [← hq, ← hp]; simp
       refine .inr ⟨g, cap, by rw [e], hgb, ?_⟩
       have := HRV.out.take q
       rwa [show (yb :: ya :: r).reverse.take q = (ya :: r).reverse by rw [List.reverse_cons, ← e, List.take_left]] at this
      have hput := HS1.out.put (by omega) (by omega) (.slice (some ⟨g, 0, none⟩) q cap) hpop hl1 hout (fun k hk => hne1 k (by simpa [Value.ownBlock] using hk))
      have co := (blk_cell k1' 0).trans (rfl : _ = some (Value.slice (some ⟨g, 0, none⟩) n cap))
      have fo := blk_frozen k1' 0
      have hm2 : outLen (w0.heap.size + 1) (V'.setCell ⟨w0.heap.size + 1, 0, none⟩ (.slice (some ⟨g, 0, none⟩) q cap)) < outLen (w0.heap.size + 1) wr := by
       have e1 : (V'.setCell ⟨w0.heap.size + 1, 0, none⟩ (.slice (some ⟨g, 0, none⟩) q cap)).cell? ⟨w0.heap.size + 1, 0, none⟩ = some (.slice (some ⟨g, 0, none⟩) q cap) := (blk_cell (blk_set k1' 0 _) 0).trans rfl
       have e2 : wr.cell? ⟨w0.heap.size + 1, 0, none⟩ = some (.slice (some ⟨g, 0, none⟩) n cap) := (blk_cell K1.out 0).trans rfl
       unfold outLen
       rw [e1, e2]
       exact l2
      have HPUT := Aside0.mk hput
      have HM2 := Aside0.mk hm2
      clear k1' ho1 hne1 hpop hl1 hout hput hm2
      gi_wp2
      refine ⟨⟨ya :: r, HPUT⟩, ?_⟩
      exact HM2.out
     ·have hbad' : bad ya yb x = false := by simpa using hbad
      rw [hbad']
      have hpop : Geo.pop bad x (yb :: ya :: r) = yb :: ya :: r := by rw [Geo.pop, if_neg hbad]
      clear hbad
      have HQ1 := Aside0.mk q1
      have hS1 := hS.out.step (by omega) q1
      clear q1 hS
      have hbase : w1.heap.size + 2 ≤ V'.heap.size := hS1.size
      obtain ⟨v1, k1', ho1, hne1⟩ := hS1.out
      obtain rfl : v1 = .slice (some ⟨g, 0, none⟩) n cap := by
       have e := ((HQ1.out.block _ (blk_lt K1.out)).trans K1.out).symm.trans k1'
       simp only [Option.some.injEq, Obj.cells.injEq, Array.mk.injEq, List.cons.injEq, and_true] at e
       exact e.symm
      have co := (blk_cell k1' 0).trans (rfl : _ = some (Value.slice (some ⟨g, 0, none⟩) n cap))
      have ⟨y0, y1⟩ : V'.cell? ⟨Bx, 0, none⟩ = some (.int .i64 x.f0) ∧ V'.cell? ⟨Bx, 1, none⟩ = some (.int .i64 x.f1) := ⟨(blk_cell hS1.hx 0).trans rfl, (blk_cell hS1.hx 1).trans rfl⟩
      have hS2 := hS1.step (by omega) ((Below.refl _ _).alloc (Nat.le_refl _) (.cells #[.int .i64 x.f0, .int .i64 x.f1] 23 (0, 0)))
      have ho2 : OutV (V'.alloc (.cells #[.int .i64 x.f0, .int .i64 x.f1] 23 (0, 0))) (w1.heap.size + 2) (.slice (some ⟨g, 0, none⟩) n cap) (yb :: ya :: r).reverse := ho1.block fun k hk => Below.heap_alloc _ _ _ (ho1.lt k hk).1
      have kx := blk_new V' (.cells #[.int .i64 x.f0, .int .i64 x.f1] 23 (0, 0))
      have kv := blk_alloc k1' (.cells #[.int .i64 x.f0, .int .i64 x.f1] 23 (0, 0))
      have fx := blk_frozen k1' 0
      have HS2 := Aside0.mk hS2
      have HO2 := Aside0.mk ho2
      have HKX := Aside0.mk kx
      have HKV := Aside0.mk kv
      have HLN := Aside0.mk (show (yb :: ya :: r).reverse.length + 1 ≤ 8796093022208 by rw [List.length_reverse, ← hpop]; have := HPL.out; rw [← hS1.pop] at this; exact this)
      have HCH := Aside0.mk (show Geo.chain bad (pre ++ [x]) [] = x :: yb :: ya :: r by rw [HSN.out, ← hS1.pop, hpop])
      clear hS1 k1' ho1 hne1 hS2 ho2 kx kv hpop
      gi_wp2_with (gi_at_builtin; refine wpListIn_append_pt _ rfl _ _ rfl (w1.heap.size + 2) _ (yb :: ya :: r).reverse rfl HO2.out V'.heap.size 1 x rfl ((blk_cell HKX.out 0).trans rfl) ((blk_cell HKX.out 1).trans rfl) HLN.out ?qb ?_)
      case qb => rw [World.size_alloc]; omega
      intro v' W2 ho3 hg3 _
      obtain ⟨A', ln, c', hform⟩ : ∃ A n c, v' = .slice A n c := by obtain ⟨A, c, e⟩ := ho3.form; exact ⟨A, _, c, e⟩
      subst hform
      have ho3' : OutV W2 (w1.heap.size + 2) (.slice A' ln c') ((yb :: ya :: r).reverse ++ [x]) := by rw [hz1]; simpa using ho3
      have HF := HS2.out.push (by omega) HKV.out hg3 ho3'
      have cB : W2.cell? ⟨w0.heap.size + 1, 0, none⟩ = some (.slice (some ⟨g, 0, none⟩) n cap) := (blk_cell ((hg3.block _ (blk_lt HKV.out) fun e => by have := (HO2.out.lt _ e.symm).2; omega).trans HKV.out) 0).trans rfl
      have fB : W2.frozen? ⟨w0.heap.size + 1, 0, none⟩ = false := blk_frozen ((hg3.block _ (blk_lt HKV.out) fun e => by have := (HO2.out.lt _ e.symm).2; omega).trans HKV.out) 0
      have HF' := Aside0.mk HF
      clear HF hg3 ho3 ho3'
      gi_wp2
      dsimp only [postS]
      rw [HCH.out]
      exact HF'.out
 case done =>
  rintro D V hD ⟨g1, g2, g3, v, g4, g5⟩ hK
  have cv := (blk_cell g4 0).trans (rfl : _ = some v)
  have HK := Aside0.mk hK
  have G5 := Aside0.mk g5
  clear hK g3 g4 g5
  gi_wp2
  refine ⟨by simp, .inl ⟨_, _, rfl, run_takeDeferred HK.out, ?_⟩⟩
  refine ⟨_, results_tmp rfl _ _ _, v, rfl, ?_, ?_⟩
  ·refine (G5.out.block fun k hk => World.putObj_heap_other fun e => ?_).lower (by omega)
   obtain ⟨c, hc⟩ := G5.out.obj hk
   rw [e, HK.out] at hc
   cases hc
  ·exact g1.trans (below_putObj _ _ (by omega))
 case stop =>
  rintro D pre V hD hpre g1 hK
  exact g1.elim
end Go.Proofs.Ytegdcnjjelgpjaa.P
namespace Go.Proofs.Ytegdcnjjelgpjaa.P
open Go.RowKit Go.Proofs.YtegdcnjjelgpjaaW.PrintWords Go.Proofs.YtegdcnjjelgpjaaW.PrintLast Go.Proofs.YtegdcnjjelgpjaaW.PrintMore
attribute [local go_sem] max2_int min2_int max_two min_two max_three min_three max_four min_four   -- for this text's walks alone
set_option linter.unusedVariables false
set_option linter.unusedSimpArgs false
def cmp_isNaN_107.f (a0 : Int) : Option (Bool) := some (a0 != a0)
set_option maxHeartbeats 8000000 in
set_option maxRecDepth 100000 in
theorem cmp_isNaN_107.calls (a0 : Int) (r : Bool) (w : World) (h : cmp_isNaN_107.f a0 = some r) :
  Calls Try.prog 107 #[.int .i64 a0] w fun e w' => e = .returned (.bool r) ∧ Drawn0 w w' := by
 have H : (some (a0 != a0)) = some r := h
 clear h
 obtain rfl := Option.some.inj H
 go_enter Try.func107, Try.ntmps107
 go_wp2
 go_ret
 exact ⟨by first | rfl | (simp; done) | (simp [*]; done), by repeat (first | exact Drawn0.refl _ | apply Drawn0.step)⟩
def cmp_Compare_84.f (a0 : Int) (a1 : Int) : Option (Int) := (cmp_isNaN_107.f a0).bind fun t101 => ((cmp_isNaN_107.f a1).bind fun t102 => (if t101 = true then (if t102 = true then (some 0) else (some (-1))) else (if t102 = true then (some 1) else (if a0 < a1 then (some (-1)) else (if a0 > a1 then (some 1) else (some 0))))))
set_option maxHeartbeats 8000000 in
set_option maxRecDepth 100000 in
theorem cmp_Compare_84.calls (a0 : Int) (a1 : Int) (r : Int) (w : World) (h : cmp_Compare_84.f a0 a1 = some r) :
  Calls Try.prog 84 #[.int .i64 a0, .int .i64 a1] w fun e w' => e = .returned (.int .i64 r) ∧ Drawn0 w w' := by
 have H : ((cmp_isNaN_107.f a0).bind fun t101 => ((cmp_isNaN_107.f a1).bind fun t102 => (if t101 = true then (if t102 = true then (some 0) else (some (-1))) else (if t102 = true then (some 1) else (if a0 < a1 then (some (-1)) else (if a0 > a1 then (some 1) else (some 0))))))) = some r := h
 clear h
 replace H := Option.bind_eq_some_iff.mp H
 obtain ⟨t101, A30, H⟩ := H
 replace H : ((cmp_isNaN_107.f a1).bind fun t102 => (if t101 = true then (if t102 = true then (some 0) else (some (-1))) else (if t102 = true then (some 1) else (if a0 < a1 then (some (-1)) else (if a0 > a1 then (some 1) else (some 0)))))) = some r := H
 have A3 := Aside0.mk A30
 clear A30
 replace H := Option.bind_eq_some_iff.mp H
 obtain ⟨t102, A40, H⟩ := H
 replace H : (if t101 = true then (if t102 = true then (some 0) else (some (-1))) else (if t102 = true then (some 1) else (if a0 < a1 then (some (-1)) else (if a0 > a1 then (some 1) else (some 0))))) = some r := H
 have A4 := Aside0.mk A40
 clear A40
 by_cases c5 : t101 = true
 ·subst c5
  have H1 : (if t102 = true then (some 0) else (some (-1))) = some r := by rw [if_pos rfl] at H; exact H
  clear H
  have H := H1
  clear H1
  by_cases c6 : t102 = true
  ·subst c6
   have H1 : (some 0) = some r := by rw [if_pos rfl] at H; exact H
   clear H
   have H := H1
   clear H1
   obtain rfl := Option.some.inj H
   go_enter Try.func84, Try.ntmps84
   go_wp2_with (first | ((with_reducible refine gate_callee (f := 107) rfl ?_); refine goesL_ (some 8) rfl rfl Try.func107 (by kernel_rfl) rfl #[.int .i64 a0] rfl mB ?_; (with_reducible refine (cmp_isNaN_107.calls a0 true _ A3.out).mono ?_); rintro e w' ⟨rfl, ⟨nd, rfl⟩⟩; refine ⟨_, rfl, ?_⟩) | ((with_reducible refine gate_callee (f := 107) rfl ?_); refine goesL_ (some 10) rfl rfl Try.func107 (by kernel_rfl) rfl #[.int .i64 a1] rfl mB ?_; (with_reducible refine (cmp_isNaN_107.calls a1 true _ A4.out).mono ?_); rintro e w' ⟨rfl, ⟨nd, rfl⟩⟩; refine ⟨_, rfl, ?_⟩))
   go_ret
   exact ⟨by first | rfl | (simp; done) | (simp [*]; done), by repeat (first | exact Drawn0.refl _ | apply Drawn0.step)⟩
  ·replace c6 := Bool.eq_false_iff.mpr c6
   subst c6
   have H1 : (some (-1)) = some r := by rw [if_neg (show ¬ (false = true) by decide)] at H; exact H
   clear H
   have H := H1
   clear H1
   obtain rfl := Option.some.inj H
   go_enter Try.func84, Try.ntmps84
   go_wp2_with (first | ((with_reducible refine gate_callee (f := 107) rfl ?_); refine goesL_ (some 8) rfl rfl Try.func107 (by kernel_rfl) rfl #[.int .i64 a0] rfl mB ?_; (with_reducible refine (cmp_isNaN_107.calls a0 true _ A3.out).mono ?_); rintro e w' ⟨rfl, ⟨nd, rfl⟩⟩; refine ⟨_, rfl, ?_⟩) | ((with_reducible refine gate_callee (f := 107) rfl ?_); refine goesL_ (some 10) rfl rfl Try.func107 (by kernel_rfl) rfl #[.int .i64 a1] rfl mB ?_; (with_reducible refine (cmp_isNaN_107.calls a1 false _ A4.out).mono ?_); rintro e w' ⟨rfl, ⟨nd, rfl⟩⟩; refine ⟨_, rfl, ?_⟩))
   go_ret
   exact ⟨by first | rfl | (simp; done) | (simp [*]; done), by repeat (first | exact Drawn0.refl _ | apply Drawn0.step)⟩
 ·replace c5 := Bool.eq_false_iff.mpr c5
  subst c5
  have H1 : (if t102 = true then (some 1) else (if a0 < a1 then (some (-1)) else (if a0 > a1 then (some 1) else (some 0)))) = some r := by rw [if_neg (show ¬ (false = true) by decide)] at H; exact H
  clear H
  have H := H1
  clear H1
  by_cases c7 : t102 = true
  ·subst c7
   have H1 : (some 1) = some r := by rw [if_pos rfl] at H; exact H
   clear H
   have H := H1
   clear H1
   obtain rfl := Option.some.inj H
   go_enter Try.func84, Try.ntmps84
   go_wp2_with (first | ((with_reducible refine gate_callee (f := 107) rfl ?_); refine goesL_ (some 8) rfl rfl Try.func107 (by kernel_rfl) rfl #[.int .i64 a0] rfl mB ?_; (with_reducible refine (cmp_isNaN_107.calls a0 false _ A3.out).mono ?_); rintro e w' ⟨rfl, ⟨nd, rfl⟩⟩; refine ⟨_, rfl, ?_⟩) | ((with_reducible refine gate_callee (f := 107) rfl ?_); refine goesL_ (some 10) rfl rfl Try.func107 (by kernel_rfl) rfl #[.int .i64 a1] rfl mB ?_; (with_reducible refine (cmp_isNaN_107.calls a1 true _ A4.out).mono ?_); rintro e w' ⟨rfl, ⟨nd, rfl⟩⟩; refine ⟨_, rfl, ?_⟩))
   go_ret
   exact ⟨by first | rfl | (simp; done) | (simp [*]; done), by repeat (first | exact Drawn0.refl _ | apply Drawn0.step)⟩
  ·replace c7 := Bool.eq_false_iff.mpr c7
   subst c7
   have H1 : (if a0 < a1 then (some (-1)) else (if a0 > a1 then (some 1) else (some 0))) = some r := by rw [if_neg (show ¬ (false = true) by decide)] at H; exact H
   clear H
   have H := H1
   clear H1
   by_cases c8 : a0 < a1
   ·rw [if_pos c8] at H
    have c8b0 : decide (a0 < a1) = true := decide_eq_true c8
    clear c8
    obtain rfl := Option.some.inj H
    go_enter Try.func84, Try.ntmps84
    go_wp2_with (first | ((with_reducible refine gate_callee (f := 107) rfl ?_); refine goesL_ (some 8) rfl rfl Try.func107 (by kernel_rfl) rfl #[.int .i64 a0] rfl mB ?_; (with_reducible refine (cmp_isNaN_107.calls a0 false _ A3.out).mono ?_); rintro e w' ⟨rfl, ⟨nd, rfl⟩⟩; refine ⟨_, rfl, ?_⟩) | ((with_reducible refine gate_callee (f := 107) rfl ?_); refine goesL_ (some 10) rfl rfl Try.func107 (by kernel_rfl) rfl #[.int .i64 a1] rfl mB ?_; (with_reducible refine (cmp_isNaN_107.calls a1 false _ A4.out).mono ?_); rintro e w' ⟨rfl, ⟨nd, rfl⟩⟩; refine ⟨_, rfl, ?_⟩))
    go_ret
    exact ⟨by first | rfl | (simp; done) | (simp [*]; done), by repeat (first | exact Drawn0.refl _ | apply Drawn0.step)⟩
   ·rw [if_neg c8] at H
    have c8b0 : decide (a0 < a1) = false := decide_eq_false c8
    clear c8
    by_cases c9 : a0 > a1
    ·rw [if_pos c9] at H
     have c9b0 : decide (a1 < a0) = true := decide_eq_true c9
     clear c9
     obtain rfl := Option.some.inj H
     go_enter Try.func84, Try.ntmps84
     go_wp2_with (first | ((with_reducible refine gate_callee (f := 107) rfl ?_); refine goesL_ (some 8) rfl rfl Try.func107 (by kernel_rfl) rfl #[.int .i64 a0] rfl mB ?_; (with_reducible refine (cmp_isNaN_107.calls a0 false _ A3.out).mono ?_); rintro e w' ⟨rfl, ⟨nd, rfl⟩⟩; refine ⟨_, rfl, ?_⟩) | ((with_reducible refine gate_callee (f := 107) rfl ?_); refine goesL_ (some 10) rfl rfl Try.func107 (by kernel_rfl) rfl #[.int .i64 a1] rfl mB ?_; (with_reducible refine (cmp_isNaN_107.calls a1 false _ A4.out).mono ?_); rintro e w' ⟨rfl, ⟨nd, rfl⟩⟩; refine ⟨_, rfl, ?_⟩))
     go_ret
     exact ⟨by first | rfl | (simp; done) | (simp [*]; done), by repeat (first | exact Drawn0.refl _ | apply Drawn0.step)⟩
    ·rw [if_neg c9] at H
     have c9b0 : decide (a1 < a0) = false := decide_eq_false c9
     clear c9
     obtain rfl := Option.some.inj H
     go_enter Try.func84, Try.ntmps84
     go_wp2_with (first | ((with_reducible refine gate_callee (f := 107) rfl ?_); refine goesL_ (some 8) rfl rfl Try.func107 (by kernel_rfl) rfl #[.int .i64 a0] rfl mB ?_; (with_reducible refine (cmp_isNaN_107.calls a0 false _ A3.out).mono ?_); rintro e w' ⟨rfl, ⟨nd, rfl⟩⟩; refine ⟨_, rfl, ?_⟩) | ((with_reducible refine gate_callee (f := 107) rfl ?_); refine goesL_ (some 10) rfl rfl Try.func107 (by kernel_rfl) rfl #[.int .i64 a1] rfl mB ?_; (with_reducible refine (cmp_isNaN_107.calls a1 false _ A4.out).mono ?_); rintro e w' ⟨rfl, ⟨nd, rfl⟩⟩; refine ⟨_, rfl, ?_⟩))
     go_ret
     exact ⟨by first | rfl | (simp; done) | (simp [*]; done), by repeat (first | exact Drawn0.refl _ | apply Drawn0.step)⟩
end Go.Proofs.Ytegdcnjjelgpjaa.P
namespace Go.Proofs.Ytegdcnjjelgpjaa.P
open Go.Shelf Go.RowKit Go.Lib Go.Sort Go.Proofs.YtegdcnjjelgpjaaW.PrintWords Go.Proofs.YtegdcnjjelgpjaaW.PrintLast Go.Proofs.YtegdcnjjelgpjaaW.PrintMore
set_option linter.unusedVariables false
set_option linter.unusedSimpArgs false
def sortPts_ren : Go.Shelf.Ren := ⟨fun | 6 => 109 | 15 => 125 | 14 => 124 | 28 => 139 | 29 => 140 | 20 => 131 | 21 => 132 | 22 => 133 | 23 => 134 | 24 => 135 | 25 => 136 | 26 => 137 | 27 => 138 | 46 => 141 | 47 => 142 | 48 => 143 | 49 => 144 | 50 => 145 | 57 => 146 | n => n, fun | 22 => 53 | 24 => 23 | 25 => 117 | 3 => 3 | 39 => 114 | 0 => 0 | 53 => 34 | 55 => 113 | 4 => 4 | 46 => 139 | 45 => 138 | 50 => 143 | 5 => 5 | 9 => 9 | 66 => 147 | 70 => 151 | 76 => 153 | 77 => 154 | n => n, fun | n => n⟩
theorem sortPts : Go.Proofs.SlLaysF0.n6 Try.prog sortPts_ren := {
 mixed := by kernel_rfl,
 f6 := ⟨Try.f109.name, by decide, Try.func109.trans (congrArg some (by kernel_rfl))⟩,
 f14 := ⟨Try.f124.name, by decide, Try.func124.trans (congrArg some (by kernel_rfl))⟩,
 f15 := Try.func125.trans (congrArg some (by kernel_rfl)),
 f20 := ⟨Try.f131.name, by decide, Try.func131.trans (congrArg some (by kernel_rfl))⟩,
 f21 := ⟨Try.f132.name, by decide, Try.func132.trans (congrArg some (by kernel_rfl))⟩,
 f22 := ⟨Try.f133.name, by decide, Try.func133.trans (congrArg some (by kernel_rfl))⟩,
 f23 := ⟨Try.f134.name, by decide, Try.func134.trans (congrArg some (by kernel_rfl))⟩,
 f24 := ⟨Try.f135.name, by decide, Try.func135.trans (congrArg some (by kernel_rfl))⟩,
 f25 := ⟨Try.f136.name, by decide, Try.func136.trans (congrArg some (by kernel_rfl))⟩,
 f26 := ⟨Try.f137.name, by decide, Try.func137.trans (congrArg some (by kernel_rfl))⟩,
 f27 := ⟨Try.f138.name, by decide, Try.func138.trans (congrArg some (by kernel_rfl))⟩,
 f28 := Try.func139.trans (congrArg some (by kernel_rfl)),
 f29 := Try.func140.trans (congrArg some (by kernel_rfl)),
 f46 := ⟨Try.f141.name, by decide, Try.func141.trans (congrArg some (by kernel_rfl))⟩,
 f47 := Try.func142.trans (congrArg some (by kernel_rfl)),
 f48 := Try.func143.trans (congrArg some (by kernel_rfl)),
 f49 := ⟨Try.f144.name, by decide, Try.func144.trans (congrArg some (by kernel_rfl))⟩,
 f50 := ⟨Try.f145.name, by decide, Try.func145.trans (congrArg some (by kernel_rfl))⟩,
 f57 := ⟨Try.f146.name, by decide, Try.func146.trans (congrArg some (by kernel_rfl))⟩,
 t0 := Try.underlying0,
 a0 := Try.isAgg0,
 z0 := Try.sizeOf0,
 v0 := Try.zeroValue0,
 t3 := Try.underlying3,
 a3 := Try.isAgg3,
 z3 := Try.sizeOf3,
 v3 := Try.zeroValue3,
 t4 := Try.underlying4,
 a4 := Try.isAgg4,
 z4 := Try.sizeOf4,
 v4 := Try.zeroValue4,
 t5 := Try.underlying5,
 a5 := Try.isAgg5,
 z5 := Try.sizeOf5,
 v5 := Try.zeroValue5,
 t9 := Try.underlying9,
 a9 := Try.isAgg9,
 z9 := Try.sizeOf9,
 v9 := Try.zeroValue9,
 t22 := Try.underlying53,
 a22 := Try.isAgg53,
 z22 := Try.sizeOf53,
 v22 := Try.zeroValue53,
 t25 := Try.underlying117,
 a25 := Try.isAgg117,
 z25 := Try.sizeOf117,
 v25 := Try.zeroValue117,
 t39 := Try.underlying114,
 a39 := Try.isAgg114,
 z39 := Try.sizeOf114,
 v39 := Try.zeroValue114,
 t45 := Try.underlying138,
 a45 := Try.isAgg138,
 z45 := Try.sizeOf138,
 v45 := Try.zeroValue138,
 t46 := Try.underlying139,
 a46 := Try.isAgg139,
 z46 := Try.sizeOf139,
 v46 := Try.zeroValue139,
 t50 := Try.underlying143,
 a50 := Try.isAgg143,
 z50 := Try.sizeOf143,
 v50 := Try.zeroValue143,
 t53 := Try.underlying34,
 a53 := Try.isAgg34,
 z53 := Try.sizeOf34,
 v53 := Try.zeroValue34,
 t55 := Try.underlying113,
 a55 := Try.isAgg113,
 z55 := Try.sizeOf113,
 v55 := Try.zeroValue113,
 t66 := Try.underlying147,
 a66 := Try.isAgg147,
 z66 := Try.sizeOf147,
 v66 := Try.zeroValue147,
 t70 := Try.underlying151,
 a70 := Try.isAgg151,
 z70 := Try.sizeOf151,
 v70 := Try.zeroValue151,
 t76 := Try.underlying153,
 a76 := Try.isAgg153,
 z76 := Try.sizeOf153,
 v76 := Try.zeroValue153,
 t77 := Try.underlying154,
 a77 := Try.isAgg154,
 z77 := Try.sizeOf154,
 v77 := Try.zeroValue154 }
def reversePts_ren : Go.Shelf.Ren := ⟨fun | 35 => 115 | n => n, fun | 22 => 53 | 23 => 23 | 3 => 3 | 4 => 4 | 0 => 0 | n => n, fun | n => n⟩
theorem reversePts : Go.Proofs.SlLaysE0.n35 Try.prog reversePts_ren := {
 mixed := by kernel_rfl,
 f35 := ⟨Try.f115.name, by decide, Try.func115.trans (congrArg some (by kernel_rfl))⟩,
 t0 := Try.underlying0,
 a0 := Try.isAgg0,
 z0 := Try.sizeOf0,
 v0 := Try.zeroValue0,
 t3 := Try.underlying3,
 a3 := Try.isAgg3,
 z3 := Try.sizeOf3,
 v3 := Try.zeroValue3,
 t4 := Try.underlying4,
 a4 := Try.isAgg4,
 z4 := Try.sizeOf4,
 v4 := Try.zeroValue4,
 t22 := Try.underlying53,
 a22 := Try.isAgg53,
 z22 := Try.sizeOf53,
 v22 := Try.zeroValue53 }
def cmpI (a b : Int) : Int := if a < b then -1 else if b < a then 1 else 0
theorem cmpI_eq (a b : Int) : cmp_Compare_84.f a b = some (cmpI a b) := by
 unfold cmp_Compare_84.f cmpI
 simp only [cmp_isNaN_107.f]
 by_cases h1 : a < b
 ·simp [h1]
 ·by_cases h2 : b < a
  ·simp [h1, h2]
  ·simp [h1, h2]
def cmpP (x y : S23) : Int := if x.f0 ≠ y.f0 then cmpI x.f0 y.f0 else cmpI x.f1 y.f1
theorem ltOf_cmpP (x y : S23) : ltOf cmpP x y = Geo.ltb S23.f0 S23.f1 x y := by
 unfold ltOf cmpP cmpI Geo.ltb
 by_cases h : x.f0 = y.f0
 ·simp only [h, ne_eq, not_true, if_false]
  by_cases h1 : x.f1 < y.f1
  ·simp [h1]
  ·by_cases h2 : y.f1 < x.f1 <;> simp [h1, h2]
 ·simp only [h, ne_eq, not_false_eq_true, if_true]
  by_cases h1 : x.f0 < y.f0
  ·simp [h1]
  ·by_cases h2 : y.f0 < x.f0 <;> simp [h1, h2]
theorem swo_cmpP : SWO (ltOf cmpP) where
 irrefl x := by rw [ltOf_cmpP]; simp [Geo.ltb]
 trans x y z h1 h2 := by rw [ltOf_cmpP] at *; simp [Geo.ltb] at *; omega
 ntrans x y z h1 h2 := by rw [ltOf_cmpP] at *; simp [Geo.ltb] at *; omega
set_option maxHeartbeats 1000000 in
theorem compare_cf (x y : S23) (W : World) : Calls Try.prog 110 #[.agg #[.int .i64 x.f0, .int .i64 x.f1], .agg #[.int .i64 y.f0, .int .i64 y.f1]] W fun e w' => e = .returned (.int .i64 (cmpP x y)) ∧ ∃ q os', w' = grow (W.drewN q) os' := by
 have c := fun a b W' => cmp_Compare_84.calls a b (cmpI a b) W' (cmpI_eq a b)
 by_cases h : x.f0 = y.f0
 ·have e : cmpP x y = cmpI x.f1 y.f1 := by unfold cmpP; rw [if_neg (by simpa using h)]
  rw [e]
  have h1 : (x.f0 != y.f0) = false := by simpa using h
  have h2 : decide (x.f0 = y.f0) = true := decide_eq_true h
  clear h e
  go_enter Try.func110, Try.ntmps110
  go_wp2_with (go_at_call 84; refine (c _ _ _).mono ?_; rintro e w' ⟨rfl, ⟨nd, rfl⟩⟩)
  go_ret
  exact ⟨rfl, nd, _, by rw [alloc_eq_grow, alloc_eq_grow, grow_grow]; rfl⟩
 ·have e : cmpP x y = cmpI x.f0 y.f0 := by unfold cmpP; rw [if_pos h]
  rw [e]
  have h1 : (x.f0 != y.f0) = true := by simpa using h
  have h2 : decide (x.f0 = y.f0) = false := decide_eq_false h
  clear e
  go_enter Try.func110, Try.ntmps110
  go_wp2_with (go_at_call 84; refine (c _ _ _).mono ?_; rintro e w' ⟨rfl, ⟨nd, rfl⟩⟩)
  go_ret
  exact ⟨rfl, nd, _, by rw [alloc_eq_grow, alloc_eq_grow, grow_grow]; rfl⟩
theorem compare_lays (blk off size : Nat) (w : World) : CmpLays Try.prog 110 #[] ptC 2 cmpP blk off size w := fun _ _ _ _ x y => compare_cf x y _
theorem get_bang_list (l : List S23) (i : Nat) (h : i < l.length) : l.toArray[i]! = l[i] := by simp [h]
theorem Row2.holds {w : World} {g cap : Nat} {l : List S23} (h : Row2 w g cap l) : HoldsK ptC 2 w g 0 l.toArray := by
 intro t ht
 rw [size_flatK, List.size_toArray] at ht
 refine ⟨?_, h.free _⟩
 rw [get_flatK _ _ _ _ (by simpa using ht), get_bang_list l (t / 2) (by omega), Nat.zero_add]
 have c := h.cell (t / 2) (by omega)
 rcases Nat.mod_two_eq_zero_or_one t with e | e
 ·rw [e]
  have e2 : t = t / 2 * 2 := by omega
  exact (congrArg (fun z => w.cell? ⟨g, z, none⟩) e2).trans c.1
 ·rw [e]
  have e2 : t = t / 2 * 2 + 1 := by omega
  exact (congrArg (fun z => w.cell? ⟨g, z, none⟩) e2).trans c.2
theorem Row2.ofHolds {w : World} {g cap : Nat} {l : List S23} {cur : Array Value} (h1 : w.heap[g]? = some (.cells cur 23 (0, 0))) (h2 : cur.size = cap * 2) (h3 : l.length ≤ cap) (h4 : cap ≤ maxLen) (h : HoldsK ptC 2 w g 0 l.toArray) : Row2 w g cap l := by
 refine ⟨cur, h1, h2, h3, h4, fun j hj => ?_⟩
 have c : ∀ i, i < 2 → cur[j * 2 + i]? = some (ptC l[j])[i]! := fun i hi => by
  have := (h.cell (i := j) (c := i) (by simpa using hj) hi).1
  rw [get_bang_list l j hj, Nat.zero_add, blk_cell h1] at this
  exact this
 exact ⟨c 0 (by decide), c 1 (by decide)⟩
theorem grow_block (w : World) (os : Array Obj) (g off : Nat) (d : Array S23) (n : Nat) {cur : Array Value} (h : w.heap[g]? = some (.cells cur 23 (0, 0))) : ∃ cur', (sortWorldK ptC 2 w g off n d os).heap[g]? = some (.cells cur' 23 (0, 0)) ∧ cur'.size = cur.size := by
 have hlt := blk_lt h
 refine ⟨putCells id off (flatK ptC 2 d) cur, ?_, by simp [putCells]⟩
 unfold sortWorldK putRowK putRow
 rw [heap_grow_old _ _ (by simp [mapBlock]; exact hlt)]
 simp [mapBlock, onCells, h, Array.getElem?_modify]
theorem sortWorld_below (w : World) (os : Array Obj) (g off : Nat) (d : Array S23) (n base : Nat) (hb : base ≤ g) (hg : g < w.heap.size) : Below base w (sortWorldK ptC 2 w g off n d os) := by
 refine ⟨rfl, rfl, rfl, size_sortWorldK_c ptC 2 w g off n d os, fun k hk => ?_⟩
 unfold sortWorldK putRowK putRow
 rw [heap_grow_old _ _ (by simp [mapBlock]; omega)]
 have hne : g ≠ k := by omega
 simp [mapBlock, Array.getElem?_modify, hne]
theorem pairwise_sorted {l : List S23} (h : SortedIn (ltOf cmpP) 0 l.length l.toArray) : l.Pairwise (fun a b => ¬ Geo.lt S23.f0 S23.f1 b a) := by
 rw [List.pairwise_iff_getElem]
 intro i j hi hj hij
 have := h i j (Nat.zero_le _) hij hj
 rw [get_bang_list l i hi, get_bang_list l j hj, ltOf_cmpP] at this
 exact Geo.ltb_false.1 this
theorem sort_pts (g cap : Nat) (l : List S23) (w : World) (hr : Row2 w g cap l) (hl : l.length < 4611686018427387904) (base : Nat) (hb : base ≤ g) :
  Calls Try.prog 109 #[.slice (some ⟨g, 0, none⟩) l.length cap, .func (.func 110) #[] #[]] w fun e w' => e = .returned (.tuple #[]) ∧ ∃ l', l'.length = l.length ∧ (∀ z, z ∈ l' ↔ z ∈ l) ∧ l'.Pairwise (fun a b => ¬ Geo.lt S23.f0 S23.f1 b a) ∧ Row2 w' g cap l' ∧ Below base w w' := by
 have eg : ∀ args w, (callFunc 110 args).run Try.prog w = .ok (.enter 110 args) w := enters_of Try.func110 (by kernel_rfl) rfl
 have hcon := AnyQ.slices_SortFunc sortPts 2 Try.isAgg23 Try.sizeOf23 ptC (fun _ => rfl) (fun x v hv => by simp [ptC] at hv; rcases hv with rfl | rfl <;> rfl) cmpP swo_cmpP 110 #[] g 0 cap l.toArray w eg (compare_lays g 0 l.toArray.size w) hr.holds hr.lt hl
 refine hcon.mono ?_
 rintro e w' ⟨rfl, d', n, os, hp, hs, rfl⟩
 obtain ⟨cur, h1, h2, h3, h4, _⟩ := hr
 have hlt := blk_lt h1
 obtain ⟨cur', k1, k2⟩ := grow_block w os g 0 d' n h1
 obtain ⟨d'⟩ := d'
 have hsz : d'.length = l.length := by simpa using hp.1
 have hperm : d'.Perm l := by
  have q := hp.2.2
  have ex : ∀ (a : List S23) (n : Nat), a.length = n → (a.toArray.extract 0 n).toList = a := by
   intro a n h; subst h; simp
  rw [ex d' _ (by simpa using hsz), ex l _ (by simp)] at q
  exact q
 refine ⟨rfl, d', hsz, fun z => hperm.mem_iff, ?_, ?_, sortWorld_below w os g 0 _ n base hb hlt⟩
 ·refine pairwise_sorted ?_
  rw [hsz]; simpa using hs
 ·refine Row2.ofHolds k1 (by rw [k2, h2]) (by omega) h4 ?_
  exact holdsK_sortWorldK_c ptC 2 w g 0 l.toArray d'.toArray n os (Row2.holds ⟨cur, h1, h2, h3, h4, ‹_›⟩) hlt (by simpa using hsz)
theorem sortWorld_far (w : World) (os : Array Obj) (g off : Nat) (d : Array S23) (n k : Nat) (hk : k ≠ g) (hlt : k < w.heap.size) : (sortWorldK ptC 2 w g off n d os).heap[k]? = w.heap[k]? := by
 unfold sortWorldK putRowK putRow
 rw [heap_grow_old _ _ (by simp [mapBlock]; omega)]
 have hne : g ≠ k := by omega
 simp [mapBlock, Array.getElem?_modify, hne]
theorem reverse_pts (g cap : Nat) (l : List S23) (w : World) (hr : Row2 w g cap l) (hl : l.length < 4611686018427387904) (h0 : 0 < l.length) :
  Calls Try.prog 115 #[.slice (some ⟨g, 0, none⟩) l.length cap] w fun e w' => e = .returned (.tuple #[]) ∧ Row2 w' g cap l.reverse ∧ Below g w w' ∧ ∀ k, k ≠ g → k < w.heap.size → w'.heap[k]? = w.heap[k]? := by
 have hcon := AnyQ.slices_Reverse reversePts 2 Try.isAgg23 Try.sizeOf23 ptC (fun _ => rfl) (fun x v hv => by simp [ptC] at hv; rcases hv with rfl | rfl <;> rfl) g 0 cap l.toArray w hr.holds (by simp; omega)
 refine hcon.mono ?_
 rintro e w' ⟨rfl, n, rfl⟩
 have hr' := hr
 obtain ⟨cur, h1, h2, h3, h4, _⟩ := hr
 have hlt := blk_lt h1
 have e1 : putRowK ptC 2 (Sort.ahead w n) g 0 l.toArray.reverse = sortWorldK ptC 2 w g 0 n l.reverse.toArray #[] := by
  unfold sortWorldK; rw [grow_empty]; simp
 rw [e1]
 obtain ⟨cur', k1, k2⟩ := grow_block w #[] g 0 l.reverse.toArray n h1
 refine ⟨rfl, ?_, sortWorld_below w #[] g 0 _ n g (Nat.le_refl _) hlt, fun k hk hks => sortWorld_far w #[] g 0 _ n k hk hks⟩
 refine Row2.ofHolds k1 (by rw [k2, h2]) (by simpa using h3) h4 ?_
 exact holdsK_sortWorldK_c ptC 2 w g 0 l.toArray l.reverse.toArray n #[] hr'.holds hlt (by simp)
end Go.Proofs.Ytegdcnjjelgpjaa.P
namespace Go.Proofs.Ytegdcnjjelgpjaa.P
open Go.RowKit Go.Proofs.YtegdcnjjelgpjaaW.PrintWords Go.Proofs.YtegdcnjjelgpjaaW.PrintLast Go.Proofs.YtegdcnjjelgpjaaW.PrintMore
attribute [local go_sem high] eqA23
set_option linter.unusedVariables false
set_option linter.unusedSimpArgs false
theorem Row2.beyond {w : World} {g cap : Nat} {l : List S23} (h : Row2 w g cap l) (i : Nat) (hi : l.length * 2 ≤ i) (v : Value) : Row2 (w.setCell ⟨g, i, none⟩ v) g cap l := by
 obtain ⟨cur, h1, h2, h3, h4, h5⟩ := h
 refine ⟨_, blk_set h1 i v, by simp [h2], h3, h4, fun j hj => ?_⟩
 rw [Array.getElem?_setIfInBounds_ne (by omega), Array.getElem?_setIfInBounds_ne (by omega)]
 exact h5 j hj
theorem Row2.beyonds {g cap : Nat} {l : List S23} : ∀ (vs : List Value) (w : World) (i : Nat), Row2 w g cap l → l.length * 2 ≤ i → Row2 (w.setCells g i vs) g cap l
 | [], _, _, h, _ => h
 | v :: vs, w, i, h, hi => Row2.beyonds vs _ (i + 1) (h.beyond i hi v) (by omega)
theorem below_setCells {base g : Nat} (hb : base ≤ g) : ∀ (vs : List Value) (w : World) (i : Nat), Below base w (w.setCells g i vs)
 | [], w, _ => Below.refl _ _
 | v :: vs, w, i => ((Below.refl base w).setCell (p := ⟨g, i, none⟩) hb v).trans (below_setCells hb vs _ (i + 1))
theorem run_clear_pts (w : World) (ty : TypeId) (b o n c : Nat) (hn : 0 < n) (hc : ∀ j, j < n * 2 → (w.cell? ⟨b, o + j, none⟩).isSome = true) (hf : ∀ j, j < n * 2 → w.frozen? ⟨b, o + j, none⟩ = false) :
  ∃ Z, (Builtin.clear_ #[53] ty #[.slice (some ⟨b, o, none⟩) n c]).run Try.prog w = .ok (.tuple #[]) (w.setCells b o Z) := by
 have hl : (Builtin.zeroCells #[Value.int .i64 0, .int .i64 0] n).toList.length = n * 2 := by simp [Builtin.zeroCells]
 have h1 : ∀ v ∈ (Builtin.zeroCells #[Value.int .i64 0, .int .i64 0] n).toList, v.oneCell' = true := by
  intro v hv
  simp only [Builtin.zeroCells, Array.toList_map, List.mem_map] at hv
  obtain ⟨i, _, rfl⟩ := hv
  have : i % (#[Value.int .i64 0, .int .i64 0] : Array Value).size = 0 ∨ i % (#[Value.int .i64 0, .int .i64 0] : Array Value).size = 1 := by
   show i % 2 = 0 ∨ i % 2 = 1
   omega
  rcases this with e | e <;> rw [e] <;> rfl
 have hst := run_storeCells_cells (P := Try.prog) b o _ 0 w (by rw [hl]; simpa using hc) (by rw [hl]; simpa using hf) h1
 simp only [Nat.add_zero] at hst
 obtain ⟨m, rfl⟩ : ∃ m, n = m + 1 := ⟨n - 1, by omega⟩
 refine ⟨(Builtin.zeroCells #[Value.int .i64 0, .int .i64 0] (m + 1)).toList, ?_⟩
 have hv : (zeroValue 23).run Try.prog w = .ok (.agg #[.int .i64 0, .int .i64 0]) w := Try.zeroValue23 w
 have hcs : (Value.agg #[.int .i64 0, .int .i64 0]).cells = #[.int .i64 0, .int .i64 0] := rfl
 simp [Builtin.clear_, run_underlying Try.underlying53, hv, hcs, hst]
theorem comp_take_succ (l : List S23) (k : Nat) (h : k < l.length) : Geo.comp (l.take (k + 1)) = Geo.cstep (Geo.comp (l.take k)) l[k] := by
 rw [List.take_succ_eq_append_getElem h, Geo.comp_snoc]
theorem comp_take_last (l : List S23) (k : Nat) (h0 : 0 < k) (h : k ≤ l.length) : (Geo.comp (l.take k)).getLast? = some (l[k - 1]'(by omega)) := by
 obtain ⟨m, rfl⟩ : ∃ m, k = m + 1 := ⟨k - 1, by omega⟩
 rw [Geo.comp_last, List.take_succ_eq_append_getElem (by omega), List.getLast?_append]
 simp
theorem comp_skip (l : List S23) (k : Nat) (h0 : 0 < k) (h : k < l.length) (e : l[k] = l[k - 1]) : Geo.comp (l.take (k + 1)) = Geo.comp (l.take k) := by
 rw [comp_take_succ l k h, Geo.cstep, comp_take_last l k h0 (by omega), if_pos (by rw [e])]
theorem comp_keep (l : List S23) (k : Nat) (h0 : 0 < k) (h : k < l.length) (e : l[k] ≠ l[k - 1]) : Geo.comp (l.take (k + 1)) = Geo.comp (l.take k) ++ [l[k]] := by
 rw [comp_take_succ l k h, Geo.cstep, comp_take_last l k h0 (by omega), if_neg (by intro q; exact e (Option.some.inj q).symm)]
theorem comp_one (l : List S23) : Geo.comp (l.take 1) = l.take 1 := by
 cases l with
 | nil => rfl
 | cons x r => rfl
theorem eq_parts {a b : S23} : (a.f0 == b.f0 && (a.f1 == b.f1)) = decide (a = b) := by
 by_cases h : a = b
 ·subst h; simp
 ·rw [decide_eq_false h]
  by_cases h0 : a.f0 = b.f0
  ·have : a.f1 ≠ b.f1 := fun h1 => h (S23.ext h0 h1)
   simp [this]
  ·simp [h0]
theorem ne_parts {a b : S23} : (!(a.f0 == b.f0) || (!(a.f1 == b.f1))) = !decide (a = b) := by
 rw [← Bool.not_and, eq_parts]
structure CInv (base g cap : Nat) (w : World) (l : List S23) (m k : Nat) (W : World) (t : List S23) : Prop where
 len : t.length = l.length
 lt : k < m
 kept : t.take k = Geo.comp (l.take m)
 rest : ∀ (j : Nat) (h : j < l.length), m ≤ j + 1 → t[j]'(by omega) = l[j]
 row : Row2 W g cap t
 below : Below base w W
theorem CInv.drew {base g cap : Nat} {w : World} {l : List S23} {m k : Nat} {W : World} {t : List S23} (h : CInv base g cap w l m k W t) (n : Nat) : CInv base g cap w l m k (W.drewN n) t :=
 ⟨h.len, h.lt, h.kept, h.rest, h.row, h.below.trans (pw_below_drewN (Below.refl _ _) n)⟩
theorem CInv.skip {base g cap : Nat} {w : World} {l : List S23} {m k : Nat} {W : World} {t : List S23} (h : CInv base g cap w l m k W t) (h0 : 0 < m) (hm : m < l.length) (e : l[m] = l[m - 1]) : CInv base g cap w l (m + 1) k W t :=
 ⟨h.len, by have := h.lt; omega, by rw [comp_skip l m h0 hm e]; exact h.kept, fun j hj hm' => h.rest j hj (by omega), h.row, h.below⟩
theorem CInv.keep {base g cap : Nat} {w : World} {l : List S23} {m k : Nat} {W : World} {t : List S23} (h : CInv base g cap w l m k W t) (hb : base ≤ g) (h0 : 0 < m) (hm : m < l.length) (e : l[m] ≠ l[m - 1]) :
  CInv base g cap w l (m + 1) (k + 1) ((W.setCell ⟨g, k * 2, none⟩ (.int .i64 l[m].f0)).setCell ⟨g, k * 2 + 1, none⟩ (.int .i64 l[m].f1)) (t.set k l[m]) := by
 have hk := h.lt
 have hl := h.len
 refine ⟨by simp [hl], by omega, ?_, fun j hj hm' => ?_, h.row.set k (by omega) _, ((h.below.setCell (p := ⟨g, k * 2, none⟩) hb _).setCell (p := ⟨g, k * 2 + 1, none⟩) hb _)⟩
 ·rw [comp_keep l m h0 hm e, ← h.kept, List.take_succ_eq_append_getElem (by simp; omega), List.getElem_set_self]
  congr 1
  rw [List.take_set_of_le (Nat.le_refl _)]
 ·rw [List.getElem_set_ne (by omega)]
  exact h.rest j hj (by omega)
set_option maxRecDepth 100000 in
set_option maxHeartbeats 8000000 in
theorem compact_pts (g cap : Nat) (l : List S23) (w : World) (hr : Row2 w g cap l) (hlb : l.length < 4611686018427387904) (base : Nat) (hb : base ≤ g) :
  Calls Try.prog 111 #[.slice (some ⟨g, 0, none⟩) l.length cap] w fun e w' => e = .returned (.slice (some ⟨g, 0, none⟩) (Geo.comp l).length cap) ∧ Row2 w' g cap (Geo.comp l) ∧ Below base w w' := by
 have hle := hr.le
 obtain ⟨n, hn⟩ : ∃ n, l.length = n := ⟨_, rfl⟩
 rw [hn] at hle hlb ⊢
 by_cases h2 : n < 2
 ·have hc : Geo.comp l = l := by
   match l, hn with
   | [], _ => rfl
   | [x], _ => rfl
   | _ :: _ :: _, h => simp at h; omega
  have HC := Aside0.mk hc
  have HN := Aside0.mk hn
  have HR := Aside0.mk hr
  have d1 : decide ((n : Int) < 2) = true := decide_eq_true (by omega)
  clear hc hn hr
  go_enter Try.func111, Try.ntmps111
  go_wp2
  go_ret
  exact ⟨by rw [HC.out, HN.out]; rfl, by rw [HC.out]; exact HR.out, Below.refl _ _⟩
 ·have hn63 : n ≤ 4611686018427387903 := by omega
  have HN := Aside0.mk hn
  have HR := Aside0.mk hr
  have HLE := Aside0.mk hle
  clear hn hr hle
  have d1 : decide ((n : Int) < 2) = false := decide_eq_false (by omega)
  have d2 : ¬ ((n : Int) < 2) := by omega
  go_enter Try.func111, Try.ntmps111
  go_wp2
  go_loopg [3] n (fun gq v3 w' => ∃ k : Nat, v3 = .int .i64 k ∧ 1 ≤ k ∧ k ≤ n ∧ n - k ≤ gq ∧ Aside0 (Row2 w' g cap l) ∧ Aside0 (Below base w w') ∧ Aside0 (Geo.comp (l.take k) = l.take k))
  case atStart => exact ⟨1, rfl, Nat.le_refl _, by omega, by omega, HR, ⟨Below.refl _ _⟩, ⟨comp_one l⟩⟩
  case round =>
   clear HR
   obtain ⟨k, rfl, hk1, hk, hg, HR, HB, HC⟩ := hrel
   by_cases hlt : k < n
   ·have hlk : k < l.length := by have := HN.out; omega
    obtain ⟨x0, x1⟩ := HR.out.cell k hlk
    obtain ⟨k1, hk1e⟩ : ∃ k1, k1 + 1 = k := ⟨k - 1, by omega⟩
    have hlk1 : k1 < l.length := by omega
    obtain ⟨y0, y1⟩ := HR.out.cell k1 hlk1
    have w1 : IntKind.i64.wrap ((k : Int) - 1) = (k1 : Int) := by rw [i64_w]; unfold wrap64; omega
    have w2 : wrap64 ((k : Int) - 1) = (k1 : Int) := by unfold wrap64; omega
    have l1 : k1 < n := by omega
    obtain ⟨x, hx⟩ : ∃ x, l[k] = x := ⟨_, rfl⟩
    obtain ⟨y, hyy⟩ : ∃ y, l[k1] = y := ⟨_, rfl⟩
    rw [hx] at x0 x1
    rw [hyy] at y0 y1
    have hy2 : l[k - 1]'(by omega) = y := by
     have q : k - 1 = k1 := by omega
     simp only [q]; exact hyy
    have HX : Aside0 (∃ (h1 : k < l.length) (h2 : k - 1 < l.length), l[k] = x ∧ l[k - 1] = y) := ⟨hlk, by omega, hx, hy2⟩
    have HK := Aside0.mk hlk
    clear hx hyy hy2 hk1e hlk hlk1
    have d3 : decide ((k : Int) < (n : Int)) = true := decide_eq_true (by omega)
    by_cases hdup : x = y
    ·have e1 : (x.f0 == y.f0 && (x.f1 == y.f1)) = true := by rw [eq_parts]; exact decide_eq_true hdup
     have HD := Aside0.mk hdup
     clear hdup
     go_wp2
     have hkc : ¬ cap = k := by have := HLE.out; omega
     have hkc2 : ¬ k = cap := by omega
     have hkc3 : k ≤ cap := by have := HLE.out; omega
     have hkc4 : k ≤ n := by omega
     go_quiet (fail)
     go_wp2
     go_loopg [3, 5] n (fun gq v3 v5 w' => ∃ (kk k2 : Nat) (t : List S23), v3 = .int .i64 kk ∧ v5 = .int .i64 k2 ∧ 1 ≤ k2 ∧ k + k2 ≤ n ∧ n - (k + k2) ≤ gq ∧ Aside0 (CInv base g cap w l (k + k2) kk w' t))
     case atStart =>
      obtain ⟨h1, h2, rfl, rfl⟩ := HX.out
      have hc : Geo.comp (l.take (k + 1)) = l.take k := by rw [comp_skip l k (by omega) h1 HD.out, HC.out]
      exact ⟨k, 1, l, rfl, rfl, Nat.le_refl _, by omega, by omega, ⟨⟨rfl, by omega, hc.symm, fun _ _ _ => rfl, HR.out, HB.out.trans (pw_below_drewN (Below.refl _ _) _)⟩⟩⟩
     case round =>
      clear x0 x1 y0 y1 e1 l1 w1 w2 HR HB HC HX HD
      rename World => w2
      obtain ⟨kk, k2, t, rfl, rfl, h21, hle2, hg2, HI⟩ := hrel
      have hkk := HI.out.lt
      have htl : t.length = n := HI.out.len.trans HN.out
      by_cases hlt2 : k + k2 < n
      ·obtain ⟨k3, rfl⟩ : ∃ k3, k2 = k3 + 1 := ⟨k2 - 1, by omega⟩
       have hq1 : k + (k3 + 1) < l.length := by have := HN.out; omega
       have hq2 : k + k3 < l.length := by omega
       obtain ⟨x0, x1⟩ := HI.out.row.cell (k + (k3 + 1)) (by omega)
       obtain ⟨y0, y1⟩ := HI.out.row.cell (k + k3) (by omega)
       rw [HI.out.rest _ hq1 (by omega)] at x0 x1
       rw [HI.out.rest _ hq2 (by omega)] at y0 y1
       obtain ⟨z0, z1⟩ := HI.out.row.cell kk (by omega)
       have f0 := HI.out.row.free (kk * 2)
       have f1 := HI.out.row.free (kk * 2 + 1)
       obtain ⟨u, hu⟩ : ∃ u, l[k + (k3 + 1)] = u := ⟨_, rfl⟩
       obtain ⟨v, hv⟩ : ∃ v, l[k + k3] = v := ⟨_, rfl⟩
       rw [hu] at x0 x1
       rw [hv] at y0 y1
       have HU : Aside0 (∃ (h1 : k + (k3 + 1) < l.length) (h2 : k + (k3 + 1) - 1 < l.length), l[k + (k3 + 1)] = u ∧ l[k + (k3 + 1) - 1] = v) := ⟨hq1, by omega, hu, hv⟩
       clear hu hv hq1 hq2
       generalize t[kk].f0 = o0 at z0
       generalize t[kk].f1 = o1 at z1
       rw [show (k + (k3 + 1)) * 2 = k * 2 + (k3 + 1) * 2 by omega] at x0 x1
       rw [show (k + k3) * 2 = k * 2 + k3 * 2 by omega] at y0 y1
       have w1 : IntKind.i64.wrap (((k3 + 1 : Nat) : Int) - 1) = (k3 : Int) := by rw [i64_w]; unfold wrap64; omega
       have w3 : wrap64 (((k3 + 1 : Nat) : Int) - 1) = (k3 : Int) := by unfold wrap64; omega
       have l1 : k3 + 1 < n - k := by omega
       have l2 : k3 < n - k := by omega
       have l3 : kk < n := by omega
       have HG := Aside0.mk (And.intro h21 (And.intro hle2 (And.intro hg2 (And.intro hkk (And.intro htl hlt2)))))
       clear h21 hle2 hg2 hkk htl hlt2
       by_cases huv : u = v
       ·have e2 : (!(u.f0 == v.f0) || (!(u.f1 == v.f1))) = false := by rw [ne_parts]; simp [huv]
        have HUV := Aside0.mk huv
        clear huv
        go_wp2
        go_quiet (fail)
        go_wp2
        obtain ⟨h21, hle2, hg2, hkk, htl, hlt2⟩ := HG.out
        go_roundg (n - (k + (k3 + 1 + 1)))
        case measure => omega
        case rel =>
         refine ⟨kk, k3 + 1 + 1, t, rfl, by go_num, by omega, by omega, Nat.le_refl _, ⟨?_⟩⟩
         obtain ⟨q1, q2, rfl, rfl⟩ := HU.out
         exact (HI.out.drew _).skip (by omega) q1 HUV.out
       ·have e2 : (!(u.f0 == v.f0) || (!(u.f1 == v.f1))) = true := by rw [ne_parts]; simp [huv]
        have HUV := Aside0.mk huv
        clear huv
        go_wp2
        go_quiet (fail)
        go_wp2
        obtain ⟨h21, hle2, hg2, hkk, htl, hlt2⟩ := HG.out
        go_roundg (n - (k + (k3 + 1 + 1)))
        case measure => omega
        case rel =>
         obtain ⟨q1, q2, rfl, rfl⟩ := HU.out
         refine ⟨kk + 1, k3 + 1 + 1, t.set kk l[k + (k3 + 1)], by go_num, by go_num, by omega, by omega, Nat.le_refl _, ⟨?_⟩⟩
         exact (HI.out.drew _).keep hb (by omega) q1 HUV.out
      ·have hend : k + k2 = n := by omega
       have hI := HI.out
       rw [hend] at hI
       have hfin : t.take kk = Geo.comp l := by rw [hI.kept, List.take_of_length_le (by have := HN.out; omega)]
       have hkn : kk < n := hI.lt
       have HF := Aside0.mk hfin
       have HI2 := Aside0.mk hI
       have hcl := fun ty => run_clear_pts w2 ty g (kk * 2) (n - kk) (cap - kk) (by omega) (fun j hj => by
        rcases Nat.mod_two_eq_zero_or_one j with e | e
        ·have := (hI.row.cell (kk + j / 2) (by omega)).1
         rw [show kk * 2 + j = (kk + j / 2) * 2 by omega, this]; rfl
        ·have := (hI.row.cell (kk + j / 2) (by omega)).2
         rw [show kk * 2 + j = (kk + j / 2) * 2 + 1 by omega, this]; rfl) (fun j _ => hI.row.free _)
       clear hfin hI HI
       have q1 : ¬ cap = kk := by have := HLE.out; omega
       have q2 : ¬ kk = cap := by omega
       have q3 : kk ≤ cap := by have := HLE.out; omega
       have q4 : kk ≤ n := by omega
       have q5 : ¬ k2 < n - k := by omega
       obtain ⟨Z, hZ⟩ := hcl 0
       have hcl2 : ∀ ty, (Builtin.clear_ #[53] ty #[.slice (some ⟨g, kk * 2, none⟩) (n - kk) (cap - kk)]).run Try.prog w2 = .ok (.tuple #[]) (w2.setCells g (kk * 2) Z) := fun ty => by
        have : Builtin.clear_ #[53] ty #[.slice (some ⟨g, kk * 2, none⟩) (n - kk) (cap - kk)] = Builtin.clear_ #[53] 0 #[.slice (some ⟨g, kk * 2, none⟩) (n - kk) (cap - kk)] := rfl
        rw [this]; exact hZ
       clear hcl hZ hend hkk htl h21 hle2 hg2 hlt2
       go_wp2
       go_ret
       have hlen : (Geo.comp l).length = kk := by rw [← HF.out, List.length_take, HI2.out.len, HN.out]; omega
       refine ⟨by rw [hlen]; rfl, ?_, HI2.out.below.trans (below_setCells hb _ _ _)⟩
       rw [← HF.out]
       exact (HI2.out.row.take kk).beyonds Z _ _ (by rw [HF.out, hlen]; exact Nat.le_refl _)
    ·have e1 : (x.f0 == y.f0 && (x.f1 == y.f1)) = false := by rw [eq_parts]; exact decide_eq_false hdup
     have HD := Aside0.mk hdup
     clear hdup
     go_wp2
     go_quiet (fail)
     go_wp2
     go_roundg (n - (k + 1))
     case measure => omega
     case rel =>
      refine ⟨k + 1, by go_num, by omega, by omega, Nat.le_refl _, ⟨HR.out⟩, ⟨HB.out.trans (pw_below_drewN (Below.refl _ _) _)⟩, ⟨?_⟩⟩
      obtain ⟨h1, h2, rfl, rfl⟩ := HX.out
      rw [comp_keep l k (by omega) h1 HD.out, HC.out, List.take_succ_eq_append_getElem h1]
   ·obtain rfl : k = n := by omega
    have d3 : decide ((k : Int) < (k : Int)) = false := decide_eq_false (by omega)
    go_wp2
    go_ret
    have e : Geo.comp l = l := by have := HC.out; rwa [List.take_of_length_le (by have := HN.out; omega)] at this
    exact ⟨by rw [e, HN.out]; rfl, by rw [e]; exact HR.out, HB.out⟩
end Go.Proofs.Ytegdcnjjelgpjaa.P
namespace Go.Proofs.Ytegdcnjjelgpjaa.P
open Go.RowKit Go.Proofs.YtegdcnjjelgpjaaW.PrintWords Go.Proofs.YtegdcnjjelgpjaaW.PrintLast Go.Proofs.YtegdcnjjelgpjaaW.PrintMore
set_option linter.unusedVariables false
set_option linter.unusedSimpArgs false
set_option maxHeartbeats 1000000 in
set_option maxRecDepth 100000 in
theorem clone_some (ad : Addr) (c0 : Nat) (l0 : List S23) (w : World) (hr0 : Kd.C k23 w (some ad) l0.length l0) (hc0 : l0.length ≤ c0) (hl : l0.length < 8796093022208) :
  Calls Try.prog 108 #[.slice (some ad) l0.length c0] w fun e w' => ∃ v0_ : Value, e = .returned (v0_) ∧ Kd.R k23 23 w' w.heap.size (fun _ => True) v0_ l0 ∧ Below w.heap.size w w' := by
 have hu23 := Try.underlying23
 have q53 : ∀ (w : World) (a : Option Addr) (n c n' c' : Nat), (binOp .eql 53 (.slice a n c) (.slice none n' c')).run Try.prog w = .ok (.bool a.isNone) w := fun w a n c n' c' => Lib.run_eql_slice_nil w _ _ a n c n' c' Try.underlying53
 have HR0 := Aside0.mk hr0
 have HC0 := Aside0.mk hc0
 have HL := Aside0.mk hl
 clear hr0 hc0 hl
 have HB := Aside0.mk (Below.refl w.heap.size w)
 go_enter Try.func108, Try.ntmps108
 go_wp2_with (first | ((with_reducible refine gate_dst (N := 5) rfl ?_); (try (refine gate_guard (by rfl) ?_; dsimp only)); refine Kd.R_lit k23 _ 23 ?hg (N := 5) ?hd (xs := ([] : List (S23))) (inner := []) (ok := fun _ => True) (okp := fun _ => True) ?hr ?hp (fun _ hk => hk) trivial (Below.refl _ _) (Nat.le_refl _) (by simp) ?_; (case hd => rfl); (case hg => rfl); (case hr => first | (go_simp; done) | (go_simp; rfl)); (case hp => exact (Reps.none _ _)); intro v305 w42 ho43 hb hg_ hnew_; clear hg_ hnew_; have n0_ := Aside0.mk (Kd.R_lower ho43 (below_size (by repeat (first | exact HB.out | apply below_alloc | apply pw_below_drewN | apply below_drew1)))); have n2_ := Aside0.mk (below_step (by repeat (first | exact HB.out | apply below_alloc | apply pw_below_drewN | apply below_drew1)) hb); clear HB; have HO306 := n0_; have HB := n2_; clear n0_ n2_; clear hb ho43) | ((with_reducible refine gate_builtin (b := .append) (xs := #[.tmp 5, .tmp 6]) rfl ?_); (try (refine gate_guard (by rfl) ?_; dsimp only)); at_builtin; refine Kd.R_append_rows k23 (w0 := w) w.heap.size rfl (.tmp 5) (.tmp 6) 53 23 (.agg #[(.int .i64 0), (.int .i64 0)]) 16 rfl Try.underlying53 info23 rfl (by decide) (by omega) v305 [] l0 _ _ _ (fun _ => True) (fun _ => False) rfl rfl ?aO ?aR (fun _ _ h => h) (fun _ h => h.elim) ?aF ?aB ?aS ?aL ?_; (case aR => repeat (first | exact (Kd.C_below HR0.out HB.out) | (with_reducible refine Kd.C_alloc ?_ _) | (with_reducible refine Kd.C_drewN ?_ _) | (with_reducible refine Kd.C_drew ?_))); (case aB => exact (by repeat (first | exact HB.out | apply below_alloc | apply pw_below_drewN | apply below_drew1))); (case aF => exact (fun _ _ => trivial)); (case aO => exact (by (with_reducible repeat (first | apply Kd.R_alloc | apply Kd.R_drewN | apply Kd.R_drew)); exact HO306.out)); (case aS => exact (below_size (by repeat (first | exact HB.out | apply below_alloc | apply pw_below_drewN | apply below_drew1)))); (case aL => have := HL.out; simp only [List.length_nil]; omega); intro v308 w44 ho hb hg hat; simp only [List.nil_append] at ho; have n1_ := Aside0.mk (hb); have n2_ := Aside0.mk (ho); clear HB; clear HO306; have HB := n1_; have HO309 := n2_; clear n1_ n2_; clear ho hb hg hat; obtain ⟨Ao45, co45, eo45⟩ := Kd.R_slice HO309.out; subst eo45))
 go_ret
 exact ⟨_, rfl, HO309.out, HB.out⟩
end Go.Proofs.Ytegdcnjjelgpjaa.P
namespace Go.Proofs.Ytegdcnjjelgpjaa.P
open Go.RowKit Go.Proofs.YtegdcnjjelgpjaaW.PrintWords Go.Proofs.YtegdcnjjelgpjaaW.PrintLast Go.Proofs.YtegdcnjjelgpjaaW.PrintMore
attribute [local go_sem] max2_int min2_int max_two min_two max_three min_three max_four min_four   -- for this text's walks alone
set_option linter.unusedVariables false
set_option linter.unusedSimpArgs false
def plane_cross.f (a0_0 : Int) (a0_1 : Int) (a1_0 : Int) (a1_1 : Int) (a2_0 : Int) (a2_1 : Int) : Option (Int) := some (wrap64 ((wrap64 ((wrap64 (a1_0 - a0_0)) * (wrap64 (a2_1 - a0_1)))) - (wrap64 ((wrap64 (a1_1 - a0_1)) * (wrap64 (a2_0 - a0_0))))))
set_option maxHeartbeats 8000000 in
set_option maxRecDepth 100000 in
theorem plane_cross.calls (a0_0 : Int) (a0_1 : Int) (a1_0 : Int) (a1_1 : Int) (a2_0 : Int) (a2_1 : Int) (r : Int) (w : World) (h : plane_cross.f a0_0 a0_1 a1_0 a1_1 a2_0 a2_1 = some r) :
  Calls Try.prog 85 #[.agg #[.int .i64 a0_0, .int .i64 a0_1], .agg #[.int .i64 a1_0, .int .i64 a1_1], .agg #[.int .i64 a2_0, .int .i64 a2_1]] w fun e w' => e = .returned (.int .i64 r) ∧ Below w.heap.size w w' := by
 have hu23 := Try.underlying23
 have HB := Aside0.mk (Below.refl w.heap.size w)
 have H : (some (wrap64 ((wrap64 ((wrap64 (a1_0 - a0_0)) * (wrap64 (a2_1 - a0_1)))) - (wrap64 ((wrap64 (a1_1 - a0_1)) * (wrap64 (a2_0 - a0_0))))))) = some r := h
 clear h
 obtain rfl := Option.some.inj H
 go_enter Try.func85, Try.ntmps85
 go_wp2_with (first | ((with_reducible refine gate_dst (N := 3) rfl ?_); refine boxE (N := 3) (cs := #[.int .i64 a0_0, .int .i64 a0_1]) (t := 23) ?_; intro gb101 hg w4 hbox hb; have n0_ := Aside0.mk (below_step (bB0 HB) hb); have BK101 := Aside0.mk (hbox); have GW101 := Aside0.mk (szB hg (below_size (bB0 HB))); have GE101 := GW101; clear HB; have HB := n0_; clear n0_; clear hb hbox hg) | ((with_reducible refine gate_dst (N := 4) rfl ?_); refine boxE (N := 4) (cs := #[.int .i64 a1_0, .int .i64 a1_1]) (t := 23) ?_; intro gb102 hg w5 hbox hb; have n0_ := Aside0.mk (blk_below (kB BK101) hb); have n1_ := Aside0.mk (below_step (bB1 HB GE101) hb); have BK102 := Aside0.mk (hbox); have GW102 := Aside0.mk (szB hg (below_size (bB1 HB GE101))); have GE102 := GW102; have NB101_102 := Aside0.mk (neA hg (blk_lt (kB BK101))); have NB102_101 := Aside0.mk (neB hg (blk_lt (kB BK101))); clear BK101; clear HB; have BK101 := n0_; have HB := n1_; clear n0_ n1_; clear hb hbox hg) | ((with_reducible refine gate_dst (N := 5) rfl ?_); refine boxE (N := 5) (cs := #[.int .i64 a2_0, .int .i64 a2_1]) (t := 23) ?_; intro gb103 hg w6 hbox hb; have n0_ := Aside0.mk (blk_below (kB BK101) hb); have n1_ := Aside0.mk (blk_below (kB BK102) hb); have n2_ := Aside0.mk (below_step (bB2 HB GE101 GE102) hb); have BK103 := Aside0.mk (hbox); have GW103 := Aside0.mk (szB hg (below_size (bB2 HB GE101 GE102))); have GE103 := GW103; have NB101_103 := Aside0.mk (neA hg (blk_lt (kB BK101))); have NB103_101 := Aside0.mk (neB hg (blk_lt (kB BK101))); have NB102_103 := Aside0.mk (neA hg (blk_lt (kB BK102))); have NB103_102 := Aside0.mk (neB hg (blk_lt (kB BK102))); clear BK101; clear BK102; clear HB; have BK101 := n0_; have BK102 := n1_; have HB := n2_; clear n0_ n1_ n2_; clear hb hbox hg; have hnb7 := NB102_101.out; have hnc7 := NB101_102.out; have hnb8 := NB102_103.out; have hnc8 := NB103_102.out; have hcz9_0 : w6.cell? ⟨gb102, 0, none⟩ = some (.int .i64 a1_0) := (blk_cell BK102.out 0).trans rfl; have hcz9_1 : w6.cell? ⟨gb102, 1, none⟩ = some (.int .i64 a1_1) := (blk_cell BK102.out 1).trans rfl; have hfz9_0 := blk_frozen BK102.out 0; have hfz9_1 := blk_frozen BK102.out 1; have hnb10 := NB101_103.out; have hnc10 := NB103_101.out; have hcz11_0 : w6.cell? ⟨gb101, 0, none⟩ = some (.int .i64 a0_0) := (blk_cell BK101.out 0).trans rfl; have hcz11_1 : w6.cell? ⟨gb101, 1, none⟩ = some (.int .i64 a0_1) := (blk_cell BK101.out 1).trans rfl; have hfz11_0 := blk_frozen BK101.out 0; have hfz11_1 := blk_frozen BK101.out 1; have hcz12_0 : w6.cell? ⟨gb103, 0, none⟩ = some (.int .i64 a2_0) := (blk_cell BK103.out 0).trans rfl; have hcz12_1 : w6.cell? ⟨gb103, 1, none⟩ = some (.int .i64 a2_1) := (blk_cell BK103.out 1).trans rfl; have hfz12_0 := blk_frozen BK103.out 0; have hfz12_1 := blk_frozen BK103.out 1))
 go_ret
 exact ⟨eB, bB3 HB GE101 GE102 GE103⟩
end Go.Proofs.Ytegdcnjjelgpjaa.P
namespace Go.Proofs.Ytegdcnjjelgpjaa.P
open Go.RowKit Go.Shelf Go.Proofs.Ytegdcnjjelgpjaa.O Go.Proofs.YtegdcnjjelgpjaaW.PrintWords Go.Proofs.YtegdcnjjelgpjaaW.PrintLast Go.Proofs.YtegdcnjjelgpjaaW.PrintMore
attribute [local go_sem] Oper.semAt_some
set_option linter.unusedVariables false
set_option linter.unusedSimpArgs false
def crW (a b c : S23) : Int := wrap64 (wrap64 (wrap64 (b.f0 - a.f0) * wrap64 (c.f1 - a.f1)) - wrap64 (wrap64 (b.f1 - a.f1) * wrap64 (c.f0 - a.f0)))
def rightW (a b c : S23) : Bool := decide (crW a b c ≤ 0)
set_option maxHeartbeats 1000000 in
theorem right_fn : DropFn 112 rightW := by
 refine ⟨enters_of Try.func112 (by kernel_rfl) rfl, fun a b c W => ?_⟩
 have hc := fun W' => plane_cross.calls a.f0 a.f1 b.f0 b.f1 c.f0 c.f1 (crW a b c) W' rfl
 unfold rightW
 generalize crW a b c = r at hc ⊢
 go_enter Try.func112, Try.ntmps112
 go_wp2_with (go_at_call 85; refine (hc _).mono ?_; rintro e w' ⟨rfl, hb⟩)
 go_ret
 exact ⟨rfl, ((((Below.refl _ _).alloc (Nat.le_refl _) _).alloc (by simp) _).alloc (by simp; omega) _).trans (hb.mono (by simp; omega))⟩
def bnd (l : List S23) : Bool := l.all fun p => decide (-67108864 ≤ p.f0 ∧ p.f0 ≤ 67108864) && decide (-67108864 ≤ p.f1 ∧ p.f1 ≤ 67108864)
def Bd (p : S23) : Prop := (-67108864 ≤ p.f0 ∧ p.f0 ≤ 67108864) ∧ (-67108864 ≤ p.f1 ∧ p.f1 ≤ 67108864)
theorem bnd_iff {l : List S23} : bnd l = true ↔ ∀ p ∈ l, Bd p := by
 simp [bnd, Bd, List.all_eq_true]
theorem ww {x : Int} (h0 : -9223372036854775808 ≤ x) (h1 : x ≤ 9223372036854775807) : wrap64 x = x := by unfold wrap64; omega
theorem mulA_bd {a b A : Int} (ha : -A ≤ a ∧ a ≤ A) (hb : -A ≤ b ∧ b ≤ A) : -(A * A) ≤ a * b ∧ a * b ≤ A * A := by
 have h1 : 0 ≤ (A - a) * (A + b) := Int.mul_nonneg (by omega) (by omega)
 have h2 : 0 ≤ (A + a) * (A - b) := Int.mul_nonneg (by omega) (by omega)
 have h3 : 0 ≤ (A - a) * (A - b) := Int.mul_nonneg (by omega) (by omega)
 have h4 : 0 ≤ (A + a) * (A + b) := Int.mul_nonneg (by omega) (by omega)
 have e1 : (A - a) * (A + b) = A * A + A * b - a * A - a * b := by grind
 have e2 : (A + a) * (A - b) = A * A - A * b + a * A - a * b := by grind
 have e3 : (A - a) * (A - b) = A * A - A * b - a * A + a * b := by grind
 have e4 : (A + a) * (A + b) = A * A + A * b + a * A + a * b := by grind
 constructor <;> omega
theorem crW_eq {a b c : S23} (ha : Bd a) (hb : Bd b) (hc : Bd c) : crW a b c = Geo.cr S23.f0 S23.f1 a b c := by
 obtain ⟨⟨a1, a2⟩, a3, a4⟩ := ha
 obtain ⟨⟨b1, b2⟩, b3, b4⟩ := hb
 obtain ⟨⟨c1, c2⟩, c3, c4⟩ := hc
 unfold crW Geo.cr
 have p1 := mulA_bd (a := b.f0 - a.f0) (b := c.f1 - a.f1) (A := 134217728) (by omega) (by omega)
 have p2 := mulA_bd (a := b.f1 - a.f1) (b := c.f0 - a.f0) (A := 134217728) (by omega) (by omega)
 rw [ww (x := b.f0 - a.f0) (by omega) (by omega), ww (x := c.f1 - a.f1) (by omega) (by omega), ww (x := b.f1 - a.f1) (by omega) (by omega), ww (x := c.f0 - a.f0) (by omega) (by omega)]
 rw [ww (x := (b.f0 - a.f0) * (c.f1 - a.f1)) (by omega) (by omega), ww (x := (b.f1 - a.f1) * (c.f0 - a.f0)) (by omega) (by omega), ww (by omega) (by omega)]
theorem pop_congr {bad bad' : S23 → S23 → S23 → Bool} {P : S23 → Prop} (h : ∀ a b c, P a → P b → P c → bad a b c = bad' a b c) (x : S23) (hx : P x) : ∀ st : List S23, (∀ y ∈ st, P y) → Geo.pop bad x st = Geo.pop bad' x st
 | [], _ => rfl
 | [_], _ => rfl
 | b :: a :: r, hs => by
  rw [Geo.pop, Geo.pop, h a b x (hs a (by simp)) (hs b (by simp)) hx]
  split
  ·exact pop_congr h x hx (a :: r) fun y hy => hs y (by simp at hy ⊢; grind)
  ·rfl
theorem chain_congr {bad bad' : S23 → S23 → S23 → Bool} {P : S23 → Prop} (h : ∀ a b c, P a → P b → P c → bad a b c = bad' a b c) : ∀ l st : List S23, (∀ y ∈ l, P y) → (∀ y ∈ st, P y) → Geo.chain bad l st = Geo.chain bad' l st
 | [], _, _, _ => rfl
 | x :: r, st, hl, hs => by
  have hx := hl x (by simp)
  rw [Geo.chain, Geo.chain, pop_congr h x hx st hs]
  exact chain_congr h r _ (fun y hy => hl y (by simp [hy])) fun y hy => by
   rcases List.mem_cons.1 hy with e | e
   ·rw [e]; exact hx
   ·exact hs y ((Geo.pop_sub bad' x st).subset e)
theorem chain_right {s : List S23} (h : ∀ p ∈ s, Bd p) : Geo.chain rightW s [] = Geo.chain (Geo.right S23.f0 S23.f1) s [] :=
 chain_congr (P := Bd) (fun a b c ha hb hc => by unfold rightW Geo.right; rw [crW_eq ha hb hc]) s [] h (by simp)
theorem inj23 : ∀ p q : S23, p.f0 = q.f0 → p.f1 = q.f1 → p = q := fun p q h0 h1 => S23.ext h0 h1
def hull (l : List S23) : List S23 := Geo.hullOf S23.f0 S23.f1 (Geo.sd S23.f0 S23.f1 l)
def plane_corners.f (l0 : List S23) : Option (List S23) := if 0 < l0.length ∧ l0.length ≤ 1048576 ∧ bnd l0 = true then some (hull l0) else none
set_option maxRecDepth 100000 in
set_option maxHeartbeats 8000000 in
theorem plane_corners.calls (A0 : Option Addr) (cA : Nat) (l0 : List (S23)) (r : List (S23)) (w : World) (hr0 : Kd.C k23 w A0 l0.length l0) (hc0 : l0.length ≤ cA) (h : plane_corners.f l0 = some r) :
  Calls Try.prog 92 #[.slice A0 l0.length cA] w fun e w' => ∃ v0_ : Value, e = .returned (v0_) ∧ Kd.R k23 23 w' w.heap.size (fun _ => True) v0_ r ∧ Below w.heap.size w w' := by
 unfold plane_corners.f at h
 split at h
 case isFalse => cases h
 rename_i hg
 obtain ⟨h0, hmx, hbd⟩ := hg
 obtain rfl := Option.some.inj h
 clear h
 obtain ⟨ad, rfl⟩ : ∃ ad, A0 = some ad := by
  obtain ⟨ad, _, e, _⟩ := Kd.C_get hr0 z23 0 (by omega) (by omega)
  exact ⟨ad, e⟩
 have c1 := callsIn_w (n := 0) (clone_some ad cA l0 w hr0 hc0 (by omega))
 obtain ⟨A0, hA0⟩ : ∃ A, some ad = A := ⟨_, rfl⟩
 rw [hA0] at c1 ⊢
 have HBD := Aside0.mk hbd
 have HL0 := Aside0.mk (And.intro h0 hmx)
 have C1 := Aside0.mk c1
 clear hA0 hr0 hc0 hbd c1
 refine (callsIn_wide (n := 0)).1 (callsIn_of_wp Try.func92 rfl trivial ?_ rfl)
 simp only [Try.ntmps92, List.size_toArray, List.length_cons, List.length_nil, Nat.reduceAdd, Nat.reduceSub, Array.replicate_succ, Array.replicate_zero, List.push_toArray, List.append_toArray, List.nil_append, List.cons_append]
 gi_wp2
 refine ⟨trivial, rfl, C1.out.mono ?_⟩
 rintro e W1 ⟨v1, rfl, hR1, hb1⟩
 obtain ⟨g, c0, rfl, hgb, _, row1⟩ := Row2.ofR hR1 (by intro e; rw [e] at h0; simp at h0)
 have HSo := Aside0.mk (callsIn_w (n := 0) (sort_pts g c0 l0 W1 row1 (by omega) w.heap.size hgb))
 have HB1 := Aside0.mk hb1
 have HGB := Aside0.mk hgb
 clear hR1 row1 hb1 hgb
 gi_wp2
 refine ⟨trivial, rfl, HSo.out.mono ?_⟩
 rintro e W2 ⟨rfl, l1, hlen1, hmem1, hsorted, row2, hb2⟩
 have HCo := Aside0.mk (callsIn_w (n := 0) (compact_pts g c0 l1 W2 row2 (by omega) w.heap.size HGB.out))
 rw [hlen1] at HCo
 have hsd : Geo.comp l1 = Geo.sd S23.f0 S23.f1 l0 := Geo.comp_sd inj23 hsorted hmem1
 rw [hsd] at HCo
 have HB2 := Aside0.mk (HB1.out.trans hb2)
 clear hlen1 hmem1 hsorted row2 hb2 hsd HSo HB1
 gi_wp2
 refine ⟨trivial, rfl, HCo.out.mono ?_⟩
 rintro e W3 ⟨rfl, row3, hb3⟩
 have hsdl := Geo.sd_length (X := S23.f0) (Y := S23.f1) l0
 have hsds := Geo.sd_sorted (X := S23.f0) (Y := S23.f1) inj23 l0
 have hsdb : ∀ p ∈ Geo.sd S23.f0 S23.f1 l0, Bd p := fun p hp => bnd_iff.1 HBD.out p (Geo.sd_mem.1 hp)
 have hsdn : Geo.sd S23.f0 S23.f1 l0 ≠ [] := Geo.sd_ne (by intro e; rw [e] at h0; simp at h0)
 obtain ⟨s, hs⟩ : ∃ s, Geo.sd S23.f0 S23.f1 l0 = s := ⟨_, rfl⟩
 have hhull : hull l0 = Geo.hullOf S23.f0 S23.f1 s := by unfold hull; rw [hs]
 rw [hs] at row3 hsdl hsds hsdb hsdn
 obtain ⟨n, hn⟩ : ∃ n, s.length = n := ⟨_, rfl⟩
 rw [hs, hn]
 have HH := Aside0.mk hhull
 have HB3 := Aside0.mk (HB2.out.trans hb3)
 have HS := Aside0.mk (And.intro hsds (And.intro hsdb (And.intro hsdn hn)))
 have HR3 := Aside0.mk row3
 have HN := Aside0.mk (show n ≤ 1048576 by omega)
 clear hs hhull hb3 hsds hsdb hsdn hn row3 HCo HB2 HBD hsdl h0 hmx
 by_cases h2 : n < 2
 ·have d1 : decide ((n : Int) < 2) = true := decide_eq_true (by omega)
  gi_wp2
  go_ret
  refine ⟨_, rfl, ?_, HB3.out⟩
  have hlt : s.length < 2 := by have := HS.out.2.2.2; omega
  rw [HH.out, Geo.hullOf, if_pos hlt, ← HS.out.2.2.2]
  exact HR3.out.toR HGB.out trivial
 ·have d1 : decide ((n : Int) < 2) = false := decide_eq_false (by omega)
  have HN2 := Aside0.mk h2
  clear h2
  gi_wp2
  refine ⟨trivial, rfl, (values_make _ _ _ _).mono ?_⟩
  rintro e W4 ⟨rfl, hW4⟩
  have hb4 : Below W3.heap.size W3 W4 := by rw [hW4]; exact (Below.refl _ _).alloc (Nat.le_refl _) _
  have hs4 : W4.heap[W3.heap.size]? = some (.cells #[.slice (some ⟨g, 0, none⟩) n c0] 53 (0, 0)) := by rw [hW4]; exact blk_new _ _
  have row4 := HR3.out.below hb4 HR3.out.lt
  have hC4 : Kd.C k23 W4 (some ⟨g, 0, none⟩) s.length s := by
   obtain ⟨A, c, e, _, hC⟩ := Kd.R_reads (row4.toR (ok := fun _ => True) (Nat.le_refl g) trivial)
   cases e; exact hC
  have HST := Aside0.mk (stack_in 126 112 #[.pointer (some ⟨W3.heap.size, 0, none⟩)] s rightW W4 (enters_of Try.func126 (by kernel_rfl) rfl) (values_seq W3.heap.size c0 _ s W4 (by rw [HS.out.2.2.2]; exact hs4) hC4) right_fn (by have := HS.out.2.2.2; have := HN.out; omega))
  have HB4 := Aside0.mk (HB3.out.trans (hb4.mono HB3.out.size))
  have HR4 := Aside0.mk row4
  clear hs4 hC4 hW4 hb4 row4
  gi_wp2
  refine ⟨trivial, rfl, HST.out.mono ?_⟩
  rintro e W5 ⟨v5, rfl, ho5, hb5⟩
  rw [chain_right HS.out.2.1] at ho5
  obtain ⟨low, hlow⟩ : ∃ x, Geo.lowC S23.f0 S23.f1 s = x := ⟨_, rfl⟩
  rw [show (Geo.chain (Geo.right S23.f0 S23.f1) s []).reverse = low from hlow] at ho5
  have hlne : low ≠ [] := by
   rw [← hlow]; unfold Geo.lowC
   intro e
   exact Geo.chain_ne _ s [] (.inr HS.out.2.2.1) (List.reverse_eq_nil_iff.1 e)
  have row5 := HR4.out.below hb5 HR4.out.lt
  obtain ⟨gl, cl, rfl, hgl, rowl⟩ : ∃ gl cl, v5 = .slice (some ⟨gl, 0, none⟩) low.length cl ∧ W4.heap.size ≤ gl ∧ Row2 W5 gl cl low := by
   rcases ho5 with ⟨_, h⟩ | ⟨gl, cl, e, h1, h2⟩
   ·exact absurd h hlne
   ·exact ⟨gl, cl, e, h1, h2⟩
  obtain ⟨nl, hnl⟩ : ∃ n, low.length = n := ⟨_, rfl⟩
  rw [hnl]
  have HB5 := Aside0.mk (HB4.out.trans (hb5.mono HB4.out.size))
  have HRV := Aside0.mk (callsIn_w (n := 0) (reverse_pts g c0 s W5 row5 (by have := HS.out.2.2.2; have := HN.out; omega) (List.length_pos_iff.2 HS.out.2.2.1)))
  rw [HS.out.2.2.2] at HRV
  have HGL := Aside0.mk (show g < gl by have := HR4.out.lt; omega)
  have HLW := Aside0.mk (And.intro hlow (And.intro hlne hnl))
  have HRL := Aside0.mk rowl
  clear ho5 hb5 hlow hlne hnl hgl row5 rowl HST
  gi_wp2
  refine ⟨trivial, rfl, HRV.out.mono ?_⟩
  rintro e W6 ⟨rfl, row6, hb6, hfar⟩
  have rowl6 := HRL.out.move (hfar gl (by have := HGL.out; omega) HRL.out.lt)
  have HB6 := Aside0.mk (HB5.out.trans (hb6.mono HGB.out))
  have HR6 := Aside0.mk row6
  have HRL6 := Aside0.mk rowl6
  clear row6 hb6 hfar rowl6 HRL HRV
  gi_wp2
  refine ⟨trivial, rfl, (values_make _ _ _ _).mono ?_⟩
  rintro e W7 ⟨rfl, hW7⟩
  have hb7 : Below W6.heap.size W6 W7 := by rw [hW7]; exact (Below.refl _ _).alloc (Nat.le_refl _) _
  have hs7 : W7.heap[W6.heap.size]? = some (.cells #[.slice (some ⟨g, 0, none⟩) n c0] 53 (0, 0)) := by rw [hW7]; exact blk_new _ _
  have row7 := HR6.out.below hb7 HR6.out.lt
  have rowl7 := HRL6.out.below hb7 HRL6.out.lt
  have hC7 : Kd.C k23 W7 (some ⟨g, 0, none⟩) s.reverse.length s.reverse := by
   obtain ⟨A, c, e, _, hC⟩ := Kd.R_reads (row7.toR (ok := fun _ => True) (Nat.le_refl g) trivial)
   cases e; exact hC
  have HST := Aside0.mk (stack_in 126 112 #[.pointer (some ⟨W6.heap.size, 0, none⟩)] s.reverse rightW W7 (enters_of Try.func126 (by kernel_rfl) rfl) (values_seq W6.heap.size c0 _ s.reverse W7 (by rw [List.length_reverse, HS.out.2.2.2]; exact hs7) hC7) right_fn (by rw [List.length_reverse]; have := HS.out.2.2.2; have := HN.out; omega))
  have HB7 := Aside0.mk (HB6.out.trans (hb7.mono HB6.out.size))
  have HRL7 := Aside0.mk rowl7
  clear hs7 hC7 hW7 hb7 row7 rowl7
  gi_wp2
  refine ⟨trivial, rfl, HST.out.mono ?_⟩
  rintro e W9 ⟨v9, rfl, ho9, hb9⟩
  rw [chain_right (fun p hp => HS.out.2.1 p (List.mem_reverse.1 hp))] at ho9
  obtain ⟨high, hhigh⟩ : ∃ x, Geo.highC S23.f0 S23.f1 s = x := ⟨_, rfl⟩
  rw [show (Geo.chain (Geo.right S23.f0 S23.f1) s.reverse []).reverse = high from hhigh] at ho9
  have hhne : high ≠ [] := by
   rw [← hhigh]; unfold Geo.highC
   intro e
   exact Geo.chain_ne _ s.reverse [] (.inr (by simpa using HS.out.2.2.1)) (List.reverse_eq_nil_iff.1 e)
  obtain ⟨gh, ch, rfl, hgh, rowh⟩ : ∃ gl cl, v9 = .slice (some ⟨gl, 0, none⟩) high.length cl ∧ W7.heap.size ≤ gl ∧ Row2 W9 gl cl high := by
   rcases ho9 with ⟨_, h⟩ | ⟨gl, cl, e, h1, h2⟩
   ·exact absurd h hhne
   ·exact ⟨gl, cl, e, h1, h2⟩
  obtain ⟨nh, hnh⟩ : ∃ n, high.length = n := ⟨_, rfl⟩
  rw [hnh]
  have rowl9 := HRL7.out.below hb9 HRL7.out.lt
  have hw9 : Below w.heap.size w W9 := HB7.out.trans (hb9.mono HB7.out.size)
  have hll := chain_len (Geo.right S23.f0 S23.f1) s []
  have hlh := chain_len (Geo.right S23.f0 S23.f1) s.reverse []
  have hll2 : low.length ≤ n := by rw [← HLW.out.1]; unfold Geo.lowC; rw [List.length_reverse, ← HS.out.2.2.2]; simpa using hll
  have hlh2 : high.length ≤ n := by rw [← hhigh]; unfold Geo.highC; rw [List.length_reverse, ← HS.out.2.2.2]; simpa using hlh
  obtain ⟨kl, hkl⟩ : ∃ k, k + 1 = nl := ⟨nl - 1, by have := List.length_pos_iff.2 HLW.out.2.1; have := HLW.out.2.2; omega⟩
  obtain ⟨kh, hkh⟩ : ∃ k, k + 1 = nh := ⟨nh - 1, by have := List.length_pos_iff.2 hhne; omega⟩
  obtain ⟨L, hL⟩ : ∃ L, low.take kl = L := ⟨_, rfl⟩
  obtain ⟨M, hM⟩ : ∃ M, high.take kh = M := ⟨_, rfl⟩
  have hLl : L.length = kl := by rw [← hL, List.length_take]; have := HLW.out.2.2; omega
  have hMl : M.length = kh := by rw [← hM, List.length_take]; omega
  have hrL := rowl9.take kl
  have hrM := rowh.take kh
  rw [hL] at hrL
  rw [hM] at hrM
  have HLo : Aside0 (OutV W9 w.heap.size (.slice (some ⟨gl, 0, none⟩) kl cl) L) := ⟨.inr ⟨gl, cl, by rw [hLl], by have := HGL.out; have := HGB.out; omega, hrL⟩⟩
  have HMr := Aside0.mk hrM
  have HKH := Aside0.mk hMl.symm
  have HLM : Aside0 (L.length + M.length ≤ 8796093022208) := ⟨by have := HN.out; have := HLW.out.2.2; omega⟩
  have hfin : hull l0 = L ++ M := by
   have hl2 : ¬ s.length < 2 := by have := HN2.out; have := HS.out.2.2.2; omega
   have e1 : low.dropLast = L := by rw [← hL, List.dropLast_eq_take]; congr 1; have := HLW.out.2.2; omega
   have e2 : high.dropLast = M := by rw [← hM, List.dropLast_eq_take]; congr 1; omega
   rw [HH.out, Geo.hullOf, if_neg hl2, HLW.out.1, hhigh, e1, e2]
  have HF := Aside0.mk hfin
  have z1 := rowl9.le
  have z2 := rowh.le
  have l1 : kl ≤ cl := by have := HLW.out.2.2; omega
  have l2 : kh ≤ ch := by omega
  have b1 : nl ≤ 1048576 := by have := HN.out; have := HLW.out.2.2; omega
  have b2 : nh ≤ 1048576 := by have := HN.out; omega
  have w1 : IntKind.i64.wrap ((nl : Int) - 1) = (kl : Int) := by rw [i64_w]; unfold wrap64; omega
  have w2 : IntKind.i64.wrap ((nh : Int) - 1) = (kh : Int) := by rw [i64_w]; unfold wrap64; omega
  clear hfin hrL hrM hL hM hLl hMl hkl hkh hll hlh hll2 hlh2 hhigh hhne hnh rowl9 rowh ho9 hb9 z1 z2 hgh HST HRL7 b1 b2
  gi_wp2
  refine wpIn_region_any (by kernel_rfl) ?_
  change wpAnyIn _ _ _ _ _ _ _ _ _ (World.drew W9)
  refine wpAnyIn_inv (fun listed a V' => ∃ vr, a = { tmps := (.slice A0 l0.length cA :: undef :: selOr listed 11 (vr) (.slice none 0 0) :: .slice (some ⟨g, 0, none⟩) n c0 :: .func (.func 112) #[] #[] :: .slice (some ⟨gl, 0, none⟩) nl cl :: .slice (some ⟨gh, 0, none⟩) nh ch :: .slice A0 l0.length cA :: .slice (some ⟨g, 0, none⟩) l0.length c0 :: .slice (some ⟨g, 0, none⟩) l0.length c0 :: .tuple #[] :: .slice (some ⟨g, 0, none⟩) l0.length c0 :: .slice (some ⟨g, 0, none⟩) n c0 :: .slice (some ⟨g, 0, none⟩) n c0 :: .int .i64 (n : Int) :: .bool false :: undef :: .slice (some ⟨g, 0, none⟩) n c0 :: .func (.func 126) #[] #[.pointer (some ⟨W3.heap.size, 0, none⟩)] :: .func (.func 112) #[] #[] :: .slice (some ⟨gl, 0, none⟩) nl cl :: .slice (some ⟨g, 0, none⟩) n c0 :: .tuple #[] :: .slice (some ⟨g, 0, none⟩) n c0 :: .func (.func 126) #[] #[.pointer (some ⟨W6.heap.size, 0, none⟩)] :: .func (.func 112) #[] #[] :: .slice (some ⟨gh, 0, none⟩) nh ch :: selOr listed 0 (.slice (some ⟨gl, 0, none⟩) nl cl) undef :: selOr listed 1 (.slice (some ⟨gl, 0, none⟩) nl cl) undef :: selOr listed 2 (.int .i64 (nl : Int)) undef :: selOr listed 3 (.int .i64 (kl : Int)) undef :: selOr listed 4 (.slice (some ⟨gl, 0, none⟩) kl cl) undef :: selOr listed 5 (.slice (some ⟨gh, 0, none⟩) nh ch) undef :: selOr listed 6 (.slice (some ⟨gh, 0, none⟩) nh ch) undef :: selOr listed 7 (.int .i64 (nh : Int)) undef :: selOr listed 8 (.int .i64 (kh : Int)) undef :: selOr listed 9 (.slice (some ⟨gh, 0, none⟩) kh ch) undef :: selOr listed 10 (vr) undef :: []).toArray, defers := [] } ∧ Below w.heap.size w V' ∧ (listed.getD 10 false = false → Below W9.heap.size W9 V') ∧ (listed.getD 10 false = true → OutV V' w.heap.size vr (L ++ M))) 19 ?stepq ?stopq ?finq 12 _ _ _ (by simp) (closed_none _) ⟨undef, by simp [selOr], hw9.drew, fun _ => (Below.refl _ _).drew, fun h => by simp at h⟩ (by simp)
  case stopq =>
   intro listed a V' fuel hs hc hi hr
   have := (ready_lt hr).1
   simp at hs
   omega
  case stepq =>
   rintro listed a V' i hs hc ⟨vr, rfl, q0, q1, q2⟩ hr hne K hK
   obtain ⟨hlt', hl0⟩ := ready_lt hr
   have hi : i = 0 ∨ i = 1 ∨ i = 2 ∨ i = 3 ∨ i = 4 ∨ i = 5 ∨ i = 6 ∨ i = 7 ∨ i = 8 ∨ i = 9 ∨ i = 10 ∨ i = 11 := by simp at hs; omega
   rcases hi with rfl | rfl | rfl | rfl | rfl | rfl | rfl | rfl | rfl | rfl | rfl | rfl
   ·skip
    refine wpOpIn_of rfl rfl ?_
    clear hr hl0
    gi_wp2
    refine ⟨vr, ?_, q0, (fun h => q1 (by rw [getD_other hlt' (by decide)] at h; exact h)), fun h => q2 (by rw [getD_other hlt' (by decide)] at h; exact h)⟩
    simp (disch := decide) only [selOr_same hlt', selOr_other hlt']
   ·skip
    refine wpOpIn_of rfl rfl ?_
    clear hr hl0
    gi_wp2
    refine ⟨vr, ?_, q0, (fun h => q1 (by rw [getD_other hlt' (by decide)] at h; exact h)), fun h => q2 (by rw [getD_other hlt' (by decide)] at h; exact h)⟩
    simp (disch := decide) only [selOr_same hlt', selOr_other hlt']
   ·have d1 := rdD 1 hr
    simp only [selOr_on d1]
    refine wpOpIn_of rfl rfl ?_
    clear hr hl0
    gi_wp2
    refine ⟨vr, ?_, q0, (fun h => q1 (by rw [getD_other hlt' (by decide)] at h; exact h)), fun h => q2 (by rw [getD_other hlt' (by decide)] at h; exact h)⟩
    simp (disch := decide) only [selOr_same hlt', selOr_other hlt', selOr_on d1]
   ·have d2 := rdD 2 hr
    simp only [selOr_on d2]
    refine wpOpIn_of rfl rfl ?_
    clear hr hl0
    gi_wp2
    refine ⟨vr, ?_, q0, (fun h => q1 (by rw [getD_other hlt' (by decide)] at h; exact h)), fun h => q2 (by rw [getD_other hlt' (by decide)] at h; exact h)⟩
    simp (disch := decide) only [selOr_same hlt', selOr_other hlt', selOr_on d2]
   ·have d0 := rdD 0 hr
    have d3 := rdD 3 hr
    simp only [selOr_on d0, selOr_on d3]
    refine wpOpIn_of rfl rfl ?_
    clear hr hl0
    gi_wp2
    refine ⟨vr, ?_, q0, (fun h => q1 (by rw [getD_other hlt' (by decide)] at h; exact h)), fun h => q2 (by rw [getD_other hlt' (by decide)] at h; exact h)⟩
    simp (disch := decide) only [selOr_same hlt', selOr_other hlt', selOr_on d0, selOr_on d3]
   ·skip
    refine wpOpIn_of rfl rfl ?_
    clear hr hl0
    gi_wp2
    refine ⟨vr, ?_, q0, (fun h => q1 (by rw [getD_other hlt' (by decide)] at h; exact h)), fun h => q2 (by rw [getD_other hlt' (by decide)] at h; exact h)⟩
    simp (disch := decide) only [selOr_same hlt', selOr_other hlt']
   ·skip
    refine wpOpIn_of rfl rfl ?_
    clear hr hl0
    gi_wp2
    refine ⟨vr, ?_, q0, (fun h => q1 (by rw [getD_other hlt' (by decide)] at h; exact h)), fun h => q2 (by rw [getD_other hlt' (by decide)] at h; exact h)⟩
    simp (disch := decide) only [selOr_same hlt', selOr_other hlt']
   ·have d6 := rdD 6 hr
    simp only [selOr_on d6]
    refine wpOpIn_of rfl rfl ?_
    clear hr hl0
    gi_wp2
    refine ⟨vr, ?_, q0, (fun h => q1 (by rw [getD_other hlt' (by decide)] at h; exact h)), fun h => q2 (by rw [getD_other hlt' (by decide)] at h; exact h)⟩
    simp (disch := decide) only [selOr_same hlt', selOr_other hlt', selOr_on d6]
   ·have d7 := rdD 7 hr
    simp only [selOr_on d7]
    refine wpOpIn_of rfl rfl ?_
    clear hr hl0
    gi_wp2
    refine ⟨vr, ?_, q0, (fun h => q1 (by rw [getD_other hlt' (by decide)] at h; exact h)), fun h => q2 (by rw [getD_other hlt' (by decide)] at h; exact h)⟩
    simp (disch := decide) only [selOr_same hlt', selOr_other hlt', selOr_on d7]
   ·have d5 := rdD 5 hr
    have d8 := rdD 8 hr
    simp only [selOr_on d5, selOr_on d8]
    refine wpOpIn_of rfl rfl ?_
    clear hr hl0
    gi_wp2
    refine ⟨vr, ?_, q0, (fun h => q1 (by rw [getD_other hlt' (by decide)] at h; exact h)), fun h => q2 (by rw [getD_other hlt' (by decide)] at h; exact h)⟩
    simp (disch := decide) only [selOr_same hlt', selOr_other hlt', selOr_on d5, selOr_on d8]
   ·have d4 := rdD 4 hr
    have d9 := rdD 9 hr
    simp only [selOr_on d4, selOr_on d9]
    refine wpOpIn_of rfl rfl ?_
    have hq := q1 hl0
    refine opIn_append_pts V' _ _ rfl w.heap.size _ L rfl (HLo.out.below hq) gh kh ch M rfl HKH.out (HMr.out.below hq HMr.out.lt) HLM.out q0.size ?_
    intro v' W2 ho2 hg2 hat2
    refine hK _ _ ⟨v', ?_, q0.trans ((Below.refl _ _).grown hg2 q0.size fun k hk => (HLo.out.lt k hk).2), fun h => (by rw [getD_same hlt'] at h; cases h), fun _ => ho2⟩
    have n11 : listed.getD 11 false = false := by
     cases q : listed.getD 11 false
     ·rfl
     ·have := hc 11 _ rfl q { on := 10, ground := .data } (by simp) rfl
      rw [hl0] at this; cases this
    have e11 : ∀ v u, selOr listed 11 v u = u := fun v u => if_neg (by rw [n11]; decide)
    show Act.put _ (some 37) _ = _
    simp only [Act.put, List.setIfInBounds_toArray, List.set_cons_zero, List.set_cons_succ, e11]
    simp (disch := decide) only [selOr_same hlt', selOr_other hlt', selOr_on d4, selOr_on d9]
    simp only [e11]
   ·have d10 := rdD 10 hr
    simp only [selOr_on d10]
    refine wpOpIn_of rfl rfl ?_
    clear hr hl0
    gi_wp2
    refine ⟨vr, ?_, q0, (fun h => q1 (by rw [getD_other hlt' (by decide)] at h; exact h)), fun h => q2 (by rw [getD_other hlt' (by decide)] at h; exact h)⟩
    simp (disch := decide) only [selOr_same hlt', selOr_other hlt', selOr_on d10]
  case finq =>
   rintro listed a V' hs ⟨vr, rfl, q0, q1, q2⟩ hr
   have all : ∀ j, j < 12 → listed.getD j false = true := fun j hj => by
    cases q : listed.getD j false
    ·exact absurd hr (ready_ne hs (by kernel_rfl) j (by simpa using hj) q)
    ·rfl
   simp only [selOr_on (all 0 (by decide)), selOr_on (all 1 (by decide)), selOr_on (all 2 (by decide)), selOr_on (all 3 (by decide)), selOr_on (all 4 (by decide)), selOr_on (all 5 (by decide)), selOr_on (all 6 (by decide)), selOr_on (all 7 (by decide)), selOr_on (all 8 (by decide)), selOr_on (all 9 (by decide)), selOr_on (all 10 (by decide)), selOr_on (all 11 (by decide))]
   clear hr hs
   gi_wp2
   go_ret
   refine ⟨vr, rfl, ?_, q0⟩
   rw [HF.out]
   exact (q2 (all 10 (by decide))).toR fun _ _ => trivial
end Go.Proofs.Ytegdcnjjelgpjaa.P
namespace Go.Proofs.Ytegdcnjjelgpjaa.P
open Go.RowKit Go.Proofs.YtegdcnjjelgpjaaW.PrintWords Go.Proofs.YtegdcnjjelgpjaaW.PrintLast Go.Proofs.YtegdcnjjelgpjaaW.PrintMore
attribute [local go_sem] max2_int min2_int max_two min_two max_three min_three max_four min_four   -- for this text's walks alone
set_option linter.unusedVariables false
set_option linter.unusedSimpArgs false
mutual
def plane_checkPoints.l0 : Nat → List (List (S23)) → List (List (S23)) → Int → Int → Option (Int)
 | 0, _, _, _, _ => none
 | k + 1, x0, x7, x8, x9 => if x9 < x8 then (if 0 ≤ x9 then (if x9 < (x7.length : Int) then (if ((rd_L2 x7 x9).length : Int) > 256 then (some 6) else (plane_checkPoints.l0 k x0 x7 x8 (wrap64 (x9 + 1)))) else (none)) else (none)) else (plane_checkPoints.l1 k x0 (x0.length : Int) 0)
def plane_checkPoints.l1 : Nat → List (List (S23)) → Int → Int → Option (Int)
 | 0, _, _, _ => none
 | k + 1, x17, x18, x19 => if x19 < x18 then (if 0 ≤ x19 then (if x19 < (x17.length : Int) then ((plane_valid.f k (rd_L2 x17 x19)).bind fun t103 => (if t103 = true then (plane_checkPoints.l1 k x17 x18 (wrap64 (x19 + 1))) else (some 2))) else (none)) else (none)) else (some 0)
end
def plane_checkPoints.f (k : Nat) (l0 : List (List (S23))) : Option (Int) := plane_checkPoints.l0 k l0 l0 (l0.length : Int) 0
theorem plane_checkPoints.mono_l : ∀ k, (∀ y0 y1 y2 y3, LeO (plane_checkPoints.l0 k y0 y1 y2 y3) (plane_checkPoints.l0 (k + 1) y0 y1 y2 y3)) ∧ (∀ y0 y1 y2, LeO (plane_checkPoints.l1 k y0 y1 y2) (plane_checkPoints.l1 (k + 1) y0 y1 y2))
 | 0 => ⟨fun _ _ _ _ r h => by simp [plane_checkPoints.l0] at h, fun _ _ _ r h => by simp [plane_checkPoints.l1] at h⟩
 | k + 1 => by
  obtain ⟨ih0, ih1⟩ := plane_checkPoints.mono_l k
  refine ⟨?_, ?_⟩
  ·intro y0 y1 y2 y3
   unfold plane_checkPoints.l0
   repeat' first
   | (with_reducible exact ih0 _ _ _ _)
   | (with_reducible exact ih1 _ _ _)
   | (with_reducible exact plane_valid.mono _ _)
   | (with_reducible exact LeO.refl _)
   | (with_reducible exact LeO.none _)
   | (with_reducible refine LeO.ite ?_ ?_)
   | (with_reducible refine LeO.bind ?_ (fun _ => ?_))
   | exact ih0 _ _ _ _
   | exact ih1 _ _ _
   | exact plane_valid.mono _ _
   | exact LeO.none _
   | refine LeO.ite ?_ ?_
   | refine LeO.bind ?_ (fun _ => ?_)
  ·intro y0 y1 y2
   unfold plane_checkPoints.l1
   repeat' first
   | (with_reducible exact ih0 _ _ _ _)
   | (with_reducible exact ih1 _ _ _)
   | (with_reducible exact plane_valid.mono _ _)
   | (with_reducible exact LeO.refl _)
   | (with_reducible exact LeO.none _)
   | (with_reducible refine LeO.ite ?_ ?_)
   | (with_reducible refine LeO.bind ?_ (fun _ => ?_))
   | exact ih0 _ _ _ _
   | exact ih1 _ _ _
   | exact plane_valid.mono _ _
   | exact LeO.none _
   | refine LeO.ite ?_ ?_
   | refine LeO.bind ?_ (fun _ => ?_)
theorem plane_checkPoints.mono : ∀ a0 k, LeO (plane_checkPoints.f k a0) (plane_checkPoints.f (k + 1) a0) := by
 intro a0 k
 obtain ⟨ih0, ih1⟩ := plane_checkPoints.mono_l k
 unfold plane_checkPoints.f
 repeat' first
   | (with_reducible exact ih0 _ _ _ _)
   | (with_reducible exact ih1 _ _ _)
   | (with_reducible exact plane_valid.mono _ _)
   | (with_reducible exact LeO.refl _)
   | (with_reducible exact LeO.none _)
   | (with_reducible refine LeO.ite ?_ ?_)
   | (with_reducible refine LeO.bind ?_ (fun _ => ?_))
   | exact ih0 _ _ _ _
   | exact ih1 _ _ _
   | exact plane_valid.mono _ _
   | exact LeO.none _
   | refine LeO.ite ?_ ?_
   | refine LeO.bind ?_ (fun _ => ?_)
set_option maxHeartbeats 8000000 in
set_option maxRecDepth 100000 in
theorem plane_checkPoints.calls (k : Nat) (A0 : Option Addr) (c0 : Nat) (l0 : List (List (S23))) (r : Int) (w : World) (hr0 : Kd.C (Kd.slice 23 k23) w A0 l0.length l0) (hc0 : l0.length ≤ c0) (h : plane_checkPoints.f k l0 = some r) :
  Calls Try.prog 88 #[.slice A0 l0.length c0] w fun e w' => e = .returned (.int .i64 r) ∧ Below w.heap.size w w' := by
 have HR0 := Aside0.mk hr0
 have HC0 := Aside0.mk hc0
 clear hr0 hc0
 have HB := Aside0.mk (Below.refl w.heap.size w)
 have H : (plane_checkPoints.l0 k l0 l0 (l0.length : Int) 0) = some r := h
 clear h
 have H' := Aside0.mk H
 clear H
 go_enter Try.func88, Try.ntmps88
 go_wp2
 go_loopg [9] k (fun kq v9 w' => ∃ (x9_1 : Int), v9 = .int .i64 x9_1 ∧ Aside0 (plane_checkPoints.l0 kq l0 l0 (l0.length : Int) x9_1 = some r) ∧ Aside0 (kq ≤ k) ∧ Aside0 (Below w.heap.size w w'))
 case atStart => exact ⟨(0), sB, H', ⟨Nat.le_refl _⟩, ⟨bB0 HB⟩⟩
 case round =>
  clear H'
  obtain ⟨x9_1, rfl, HA, HK1, HB⟩ := hrel
  cases gk with
  | zero => exact absurd HA.out (by simp [plane_checkPoints.l0])
  | succ k1 =>
   have H := HA.out
   clear HA
   simp only [plane_checkPoints.l0] at H
   by_cases c2 : x9_1 < (l0.length : Int)
   ·rw [if_pos c2] at H
    have c2b0 : decide (x9_1 < (l0.length : Int)) = true := decide_eq_true c2
    clear c2
    by_cases c3 : 0 ≤ x9_1
    ·rw [if_pos c3] at H
     have c3b0 : decide (0 ≤ x9_1) = true := decide_eq_true c3
     clear c3
     by_cases c4 : x9_1 < (l0.length : Int)
     ·rw [if_pos c4] at H
      have c4b0 : decide (x9_1 < (l0.length : Int)) = true := decide_eq_true c4
      clear c4
      by_cases c5 : ((rd_L2 l0 x9_1).length : Int) > 256
      ·rw [if_pos c5] at H
       have c5b0 : decide (256 < ((rd_L2 l0 x9_1).length : Int)) = true := decide_eq_true c5
       have c5b1 : decide (256 < (rd_L2 l0 x9_1).length) = true := decide_eq_true (by omega)
       clear c5
       obtain rfl := Option.some.inj H
       have p101 : 0 ≤ (x9_1 : Int) := oB
       have q101 : x9_1 < (l0.length : Int) := oB
       obtain ⟨ad101, A101_0, c101_0, e101, hx101_0, hl101_0, hi101_0⟩ := at_L2 HR0.out x9_1 p101 q101
       cases e101
       replace hx101_0 := (HB.out.cell (World.block_lt_of_cell? w _ hx101_0)).trans hx101_0
       have HR101_0 := Aside0.mk hi101_0
       have HC101_0 := Aside0.mk hl101_0
       clear hi101_0 hl101_0
       replace p101 := eq_true p101
       replace q101 := eq_true q101
       go_wp2
       go_ret
       exact ⟨eB, bB0 HB⟩
      ·rw [if_neg c5] at H
       have c5b0 : decide (256 < ((rd_L2 l0 x9_1).length : Int)) = false := decide_eq_false c5
       have c5b1 : decide (256 < (rd_L2 l0 x9_1).length) = false := decide_eq_false (by omega)
       clear c5
       have H' := Aside0.mk H
       clear H
       have p101 : 0 ≤ (x9_1 : Int) := oB
       have q101 : x9_1 < (l0.length : Int) := oB
       obtain ⟨ad101, A101_0, c101_0, e101, hx101_0, hl101_0, hi101_0⟩ := at_L2 HR0.out x9_1 p101 q101
       cases e101
       replace hx101_0 := (HB.out.cell (World.block_lt_of_cell? w _ hx101_0)).trans hx101_0
       have HR101_0 := Aside0.mk hi101_0
       have HC101_0 := Aside0.mk hl101_0
       clear hi101_0 hl101_0
       replace p101 := eq_true p101
       replace q101 := eq_true q101
       go_wp2
       go_roundg k1
       case measure => have := HK1.out; omega
       case rel => exact ⟨(wrap64 (x9_1 + 1)), sB, H', ⟨by have := HK1.out; omega⟩, ⟨bB0 HB⟩⟩
     ·rw [if_neg c4] at H
      exact absurd H (by simp)
    ·rw [if_neg c3] at H
     exact absurd H (by simp)
   ·rw [if_neg c2] at H
    have c2b0 : decide (x9_1 < (l0.length : Int)) = false := decide_eq_false c2
    clear c2
    have H' := Aside0.mk H
    clear H
    go_wp2
    go_loopg [19] k1 (fun kq v19 w' => ∃ (x19_2 : Int), v19 = .int .i64 x19_2 ∧ Aside0 (plane_checkPoints.l1 kq l0 (l0.length : Int) x19_2 = some r) ∧ Aside0 (kq ≤ k1) ∧ Aside0 (Below w.heap.size w w'))
    case atStart => exact ⟨(0), sB, H', ⟨Nat.le_refl _⟩, ⟨bB0 HB⟩⟩
    case round =>
     clear H'
     try clear c1
     try clear p1
     try clear q1
     try clear hx1
     try clear c2
     try clear c2b0
     try clear p2
     try clear c3
     try clear c3b0
     try clear c4
     try clear c4b0
     try clear c5
     try clear c5b0
     try clear c5b1
     try clear hx101_0
     try clear p101
     try clear q101
     obtain ⟨x19_2, rfl, HA, HK2, HB⟩ := hrel
     cases gk with
     | zero => exact absurd HA.out (by simp [plane_checkPoints.l1])
     | succ k2 =>
      have H := HA.out
      clear HA
      simp only [plane_checkPoints.l1] at H
      by_cases c6 : x19_2 < (l0.length : Int)
      ·rw [if_pos c6] at H
       have c6b0 : decide (x19_2 < (l0.length : Int)) = true := decide_eq_true c6
       clear c6
       by_cases c7 : 0 ≤ x19_2
       ·rw [if_pos c7] at H
        have c7b0 : decide (0 ≤ x19_2) = true := decide_eq_true c7
        clear c7
        by_cases c8 : x19_2 < (l0.length : Int)
        ·rw [if_pos c8] at H
         have c8b0 : decide (x19_2 < (l0.length : Int)) = true := decide_eq_true c8
         clear c8
         replace H := Option.bind_eq_some_iff.mp H
         obtain ⟨t103, A90, H⟩ := H
         replace H : (if t103 = true then (plane_checkPoints.l1 k2 l0 (l0.length : Int) (wrap64 (x19_2 + 1))) else (some 2)) = some r := H
         have A9 := Aside0.mk A90
         clear A90
         by_cases c10 : t103 = true
         ·subst c10
          have H1 : (plane_checkPoints.l1 k2 l0 (l0.length : Int) (wrap64 (x19_2 + 1))) = some r := by rw [if_pos rfl] at H; exact H
          clear H
          have H := H1
          clear H1
          have H' := Aside0.mk H
          clear H
          have p102 : 0 ≤ (x19_2 : Int) := oB
          have q102 : x19_2 < (l0.length : Int) := oB
          obtain ⟨ad102, A102_0, c102_0, e102, hx102_0, hl102_0, hi102_0⟩ := at_L2 HR0.out x19_2 p102 q102
          cases e102
          replace hx102_0 := (HB.out.cell (World.block_lt_of_cell? w _ hx102_0)).trans hx102_0
          have HR102_0 := Aside0.mk hi102_0
          have HC102_0 := Aside0.mk hl102_0
          clear hi102_0 hl102_0
          replace p102 := eq_true p102
          replace q102 := eq_true q102
          go_wp2_with (first | ((with_reducible refine gate_callee (f := 66) rfl ?_); refine goesL_ (some 24) rfl rfl Try.func66 (by kernel_rfl) rfl #[.slice A102_0 (rd_L2 l0 x19_2).length c102_0] rfl mB ?_; (with_reducible refine (plane_valid.calls k2 _ _ (rd_L2 l0 x19_2) true _ ?side1 ?side2 A9.out).mono ?_); (case side1 => exact cB HR102_0 HB); (case side2 => exact HC102_0.out); rintro e w11 ⟨rfl, hb⟩; refine ⟨_, rfl, ?_⟩; replace HB := Aside0.mk (below_step (bB0 HB) hb); (try clear hb); (try clear hb2); (try clear hk); (try clear hi)))
          go_roundg k2
          case measure => have := HK1.out; have := HK2.out; omega
          case rel => exact ⟨(wrap64 (x19_2 + 1)), sB, H', ⟨by have := HK1.out; have := HK2.out; omega⟩, ⟨bB0 HB⟩⟩
         ·replace c10 := Bool.eq_false_iff.mpr c10
          subst c10
          have H1 : (some 2) = some r := by rw [if_neg (show ¬ (false = true) by decide)] at H; exact H
          clear H
          have H := H1
          clear H1
          obtain rfl := Option.some.inj H
          have p102 : 0 ≤ (x19_2 : Int) := oB
          have q102 : x19_2 < (l0.length : Int) := oB
          obtain ⟨ad102, A102_0, c102_0, e102, hx102_0, hl102_0, hi102_0⟩ := at_L2 HR0.out x19_2 p102 q102
          cases e102
          replace hx102_0 := (HB.out.cell (World.block_lt_of_cell? w _ hx102_0)).trans hx102_0
          have HR102_0 := Aside0.mk hi102_0
          have HC102_0 := Aside0.mk hl102_0
          clear hi102_0 hl102_0
          replace p102 := eq_true p102
          replace q102 := eq_true q102
          go_wp2_with (first | ((with_reducible refine gate_callee (f := 66) rfl ?_); refine goesL_ (some 24) rfl rfl Try.func66 (by kernel_rfl) rfl #[.slice A102_0 (rd_L2 l0 x19_2).length c102_0] rfl mB ?_; (with_reducible refine (plane_valid.calls k2 _ _ (rd_L2 l0 x19_2) false _ ?side1 ?side2 A9.out).mono ?_); (case side1 => exact cB HR102_0 HB); (case side2 => exact HC102_0.out); rintro e w12 ⟨rfl, hb⟩; refine ⟨_, rfl, ?_⟩; replace HB := Aside0.mk (below_step (bB0 HB) hb); (try clear hb); (try clear hb2); (try clear hk); (try clear hi)))
          go_ret
          exact ⟨eB, bB0 HB⟩
        ·rw [if_neg c8] at H
         exact absurd H (by simp)
       ·rw [if_neg c7] at H
        exact absurd H (by simp)
      ·rw [if_neg c6] at H
       have c6b0 : decide (x19_2 < (l0.length : Int)) = false := decide_eq_false c6
       clear c6
       obtain rfl := Option.some.inj H
       go_wp2
       go_ret
       exact ⟨eB, bB0 HB⟩
end Go.Proofs.Ytegdcnjjelgpjaa.P
namespace Go.Proofs.Ytegdcnjjelgpjaa.P
open Go.RowKit Go.Proofs.YtegdcnjjelgpjaaW.PrintWords Go.Proofs.YtegdcnjjelgpjaaW.PrintLast Go.Proofs.YtegdcnjjelgpjaaW.PrintMore
attribute [local go_sem] max2_int min2_int max_two min_two max_three min_three max_four min_four   -- for this text's walks alone
set_option linter.unusedVariables false
set_option linter.unusedSimpArgs false
attribute [local go_sem high] eqA23
def slices_Equal_93.l0 : Nat → List (S23) → List (S23) → Int → Int → Option (Bool)
 | 0, _, _, _, _ => none
 | k + 1, x0, x1, x12, x13 => if x13 < x12 then (if 0 ≤ x13 then (if x13 < (x0.length : Int) then (if x13 < (x1.length : Int) then (if (!(((rd_T23 x0 x13).f0) == ((rd_T23 x1 x13).f0)) || (!(((rd_T23 x0 x13).f1) == ((rd_T23 x1 x13).f1)))) = true then (some false) else (slices_Equal_93.l0 k x0 x1 x12 (wrap64 (x13 + 1)))) else (none)) else (none)) else (none)) else (some true)
def slices_Equal_93.f (k : Nat) (l0 : List (S23)) (l1 : List (S23)) : Option (Bool) := if (l0.length : Int) = (l1.length : Int) then (slices_Equal_93.l0 k l0 l1 (l0.length : Int) 0) else (some false)
theorem slices_Equal_93.mono_l : ∀ k, (∀ y0 y1 y2 y3, LeO (slices_Equal_93.l0 k y0 y1 y2 y3) (slices_Equal_93.l0 (k + 1) y0 y1 y2 y3))
 | 0 => fun _ _ _ _ r h => by simp [slices_Equal_93.l0] at h
 | k + 1 => by
  have ih0 := slices_Equal_93.mono_l k
  ·intro y0 y1 y2 y3
   unfold slices_Equal_93.l0
   repeat' first
   | (with_reducible exact ih0 _ _ _ _)
   | (with_reducible exact LeO.refl _)
   | (with_reducible exact LeO.none _)
   | (with_reducible refine LeO.ite ?_ ?_)
   | (with_reducible refine LeO.bind ?_ (fun _ => ?_))
   | exact ih0 _ _ _ _
   | exact LeO.none _
   | refine LeO.ite ?_ ?_
   | refine LeO.bind ?_ (fun _ => ?_)
theorem slices_Equal_93.mono : ∀ a0 a1 k, LeO (slices_Equal_93.f k a0 a1) (slices_Equal_93.f (k + 1) a0 a1) := by
 intro a0 a1 k
 have ih0 := slices_Equal_93.mono_l k
 unfold slices_Equal_93.f
 repeat' first
   | (with_reducible exact ih0 _ _ _ _)
   | (with_reducible exact LeO.refl _)
   | (with_reducible exact LeO.none _)
   | (with_reducible refine LeO.ite ?_ ?_)
   | (with_reducible refine LeO.bind ?_ (fun _ => ?_))
   | exact ih0 _ _ _ _
   | exact LeO.none _
   | refine LeO.ite ?_ ?_
   | refine LeO.bind ?_ (fun _ => ?_)
set_option maxHeartbeats 8000000 in
set_option maxRecDepth 100000 in
theorem slices_Equal_93.calls (k : Nat) (A0 : Option Addr) (c0 : Nat) (l0 : List (S23)) (A1 : Option Addr) (c1 : Nat) (l1 : List (S23)) (r : Bool) (w : World) (hr0 : Kd.C k23 w A0 l0.length l0) (hc0 : l0.length ≤ c0) (hr1 : Kd.C k23 w A1 l1.length l1) (hc1 : l1.length ≤ c1) (h : slices_Equal_93.f k l0 l1 = some r) :
  Calls Try.prog 93 #[.slice A0 l0.length c0, .slice A1 l1.length c1] w fun e w' => e = .returned (.bool r) ∧ Drawn0 w w' := by
 have hu23 := Try.underlying23
 have HR0 := Aside0.mk hr0
 have HC0 := Aside0.mk hc0
 clear hr0 hc0
 have HR1 := Aside0.mk hr1
 have HC1 := Aside0.mk hc1
 clear hr1 hc1
 have H : (if (l0.length : Int) = (l1.length : Int) then (slices_Equal_93.l0 k l0 l1 (l0.length : Int) 0) else (some false)) = some r := h
 clear h
 by_cases c3 : (l0.length : Int) = (l1.length : Int)
 ·rw [if_pos c3] at H
  have c3b0 : ((l0.length : Int) == (l1.length : Int)) = true := beq_iff_eq.mpr c3
  have c3b1 : ((l0.length : Int) != (l1.length : Int)) = false := bne_eq_false_iff_eq.mpr c3
  have c3b2 : (l0.length == l1.length) = true := by first | simpa using c3 | (simp at c3 ⊢; omega)
  clear c3
  have H' := Aside0.mk H
  clear H
  go_enter Try.func93, Try.ntmps93
  go_wp2
  repeat (go_quiet (fail); try go_wp2)
  go_loopg [13] k (fun kq v13 w' => ∃ (x13_1 : Int), v13 = .int .i64 x13_1 ∧ Aside0 (slices_Equal_93.l0 kq l0 l1 (l0.length : Int) x13_1 = some r) ∧ Aside0 (kq ≤ k) ∧ Drawn0 w w')
  case atStart => exact ⟨(0), sB, H', ⟨Nat.le_refl _⟩, by repeat (first | exact Drawn0.refl _ | apply Drawn0.step)⟩
  case round =>
   clear H'
   try clear c1
   try clear p2
   try clear c3
   try clear c3b0
   try clear c3b1
   try clear c3b2
   obtain ⟨x13_1, rfl, HA, HK1, ⟨m1, rfl⟩⟩ := hrel
   cases gk with
   | zero => exact absurd HA.out (by simp [slices_Equal_93.l0])
   | succ k1 =>
    have H := HA.out
    clear HA
    simp only [slices_Equal_93.l0] at H
    by_cases c4 : x13_1 < (l0.length : Int)
    ·rw [if_pos c4] at H
     have c4b0 : decide (x13_1 < (l0.length : Int)) = true := decide_eq_true c4
     clear c4
     by_cases c5 : 0 ≤ x13_1
     ·rw [if_pos c5] at H
      have c5b0 : decide (0 ≤ x13_1) = true := decide_eq_true c5
      clear c5
      by_cases c6 : x13_1 < (l0.length : Int)
      ·rw [if_pos c6] at H
       have c6b0 : decide (x13_1 < (l0.length : Int)) = true := decide_eq_true c6
       clear c6
       by_cases c7 : x13_1 < (l1.length : Int)
       ·rw [if_pos c7] at H
        have c7b0 : decide (x13_1 < (l1.length : Int)) = true := decide_eq_true c7
        clear c7
        by_cases c8 : (!(((rd_T23 l0 x13_1).f0) == ((rd_T23 l1 x13_1).f0)) || (!(((rd_T23 l0 x13_1).f1) == ((rd_T23 l1 x13_1).f1)))) = true
        ·rw [if_pos c8] at H
         have c8b0 : (!(((rd_T23 l0 x13_1).f0) == ((rd_T23 l1 x13_1).f0)) || (!(((rd_T23 l0 x13_1).f1) == ((rd_T23 l1 x13_1).f1)))) = true := c8
         clear c8
         obtain rfl := Option.some.inj H
         have p101 : 0 ≤ (x13_1 : Int) := oB
         have q101 : x13_1 < (l0.length : Int) := oB
         obtain ⟨ad101, e101, hx101_0, hx101_1⟩ := at_T23 HR0.out x13_1 p101 q101
         cases e101
         replace p101 := eq_true p101
         replace q101 := eq_true q101
         have p102 : 0 ≤ (x13_1 : Int) := oB
         have q102 : x13_1 < (l1.length : Int) := oB
         obtain ⟨ad102, e102, hx102_0, hx102_1⟩ := at_T23 HR1.out x13_1 p102 q102
         cases e102
         replace p102 := eq_true p102
         replace q102 := eq_true q102
         go_wp2
         repeat (go_quiet (fail); try go_wp2)
         go_ret
         exact ⟨by first | rfl | (simp; done) | (simp [*]; done), by repeat (first | exact Drawn0.refl _ | apply Drawn0.step)⟩
        ·rw [if_neg c8] at H
         have c8b0 : (!(((rd_T23 l0 x13_1).f0) == ((rd_T23 l1 x13_1).f0)) || (!(((rd_T23 l0 x13_1).f1) == ((rd_T23 l1 x13_1).f1)))) = false := by simpa using c8
         clear c8
         have H' := Aside0.mk H
         clear H
         have p101 : 0 ≤ (x13_1 : Int) := oB
         have q101 : x13_1 < (l0.length : Int) := oB
         obtain ⟨ad101, e101, hx101_0, hx101_1⟩ := at_T23 HR0.out x13_1 p101 q101
         cases e101
         replace p101 := eq_true p101
         replace q101 := eq_true q101
         have p102 : 0 ≤ (x13_1 : Int) := oB
         have q102 : x13_1 < (l1.length : Int) := oB
         obtain ⟨ad102, e102, hx102_0, hx102_1⟩ := at_T23 HR1.out x13_1 p102 q102
         cases e102
         replace p102 := eq_true p102
         replace q102 := eq_true q102
         go_wp2
         repeat (go_quiet (fail); try go_wp2)
         go_roundg k1
         case measure => have := HK1.out; omega
         case rel => exact ⟨(wrap64 (x13_1 + 1)), sB, H', ⟨by have := HK1.out; omega⟩, by repeat (first | exact Drawn0.refl _ | apply Drawn0.step)⟩
       ·rw [if_neg c7] at H
        exact absurd H (by simp)
      ·rw [if_neg c6] at H
       exact absurd H (by simp)
     ·rw [if_neg c5] at H
      exact absurd H (by simp)
    ·rw [if_neg c4] at H
     have c4b0 : decide (x13_1 < (l0.length : Int)) = false := decide_eq_false c4
     clear c4
     obtain rfl := Option.some.inj H
     go_wp2
     repeat (go_quiet (fail); try go_wp2)
     go_ret
     exact ⟨by first | rfl | (simp; done) | (simp [*]; done), by repeat (first | exact Drawn0.refl _ | apply Drawn0.step)⟩
 ·rw [if_neg c3] at H
  have c3b0 : ((l0.length : Int) == (l1.length : Int)) = false := beq_eq_false_iff_ne.mpr c3
  have c3b1 : ((l0.length : Int) != (l1.length : Int)) = true := bne_iff_ne.mpr c3
  have c3b2 : (l0.length == l1.length) = false := by first | simpa using c3 | (simp at c3 ⊢; omega)
  obtain rfl := Option.some.inj H
  go_enter Try.func93, Try.ntmps93
  go_wp2
  repeat (go_quiet (fail); try go_wp2)
  go_ret
  exact ⟨by first | rfl | (simp; done) | (simp [*]; done), by repeat (first | exact Drawn0.refl _ | apply Drawn0.step)⟩
end Go.Proofs.Ytegdcnjjelgpjaa.P
namespace Go.Proofs.Ytegdcnjjelgpjaa.P
open Go.RowKit Go.Proofs.YtegdcnjjelgpjaaW.PrintWords Go.Proofs.YtegdcnjjelgpjaaW.PrintLast Go.Proofs.YtegdcnjjelgpjaaW.PrintMore
attribute [local go_sem] max2_int min2_int max_two min_two max_three min_three max_four min_four   -- for this text's walks alone
set_option linter.unusedVariables false
set_option linter.unusedSimpArgs false
def plane_IsHull.f (k : Nat) (l0 : List (S23)) : Option (Bool) := if (l0.length : Int) > 0 then ((plane_checkPoints.f k (([l0] : List (List (S23))))).bind fun t104 => (if t104 = 0 then ((plane_corners.f l0).bind fun t105 => ((slices_Equal_93.f k t105 l0).bind fun t108 => (some t108))) else (some false))) else (some false)
theorem plane_IsHull.mono : ∀ a0 k, LeO (plane_IsHull.f k a0) (plane_IsHull.f (k + 1) a0) := by
 intro a0 k
 unfold plane_IsHull.f
 repeat' first
   | (with_reducible exact plane_checkPoints.mono _ _)
   | (with_reducible exact slices_Equal_93.mono _ _ _)
   | (with_reducible exact LeO.refl _)
   | (with_reducible exact LeO.none _)
   | (with_reducible refine LeO.ite ?_ ?_)
   | (with_reducible refine LeO.bind ?_ (fun _ => ?_))
   | exact plane_checkPoints.mono _ _
   | exact slices_Equal_93.mono _ _ _
   | exact LeO.none _
   | refine LeO.ite ?_ ?_
   | refine LeO.bind ?_ (fun _ => ?_)
set_option maxHeartbeats 8000000 in
set_option maxRecDepth 100000 in
theorem plane_IsHull.calls (k : Nat) (P0_ : Nat → Prop) (A0 : Option Addr) (c0 : Nat) (l0 : List (S23)) (r : Bool) (w : World) (hs0 : Kd.V k23 23 w w.heap.size (fun k_ => P0_ k_) (.slice A0 l0.length c0) l0) (h : plane_IsHull.f k l0 = some r) :
  Calls Try.prog 47 #[.slice A0 l0.length c0] w fun e w' => e = .returned (.bool r) ∧ Below w.heap.size w w' := by
 have HO0 := Aside0.mk (show Kd.V k23 23 w w.heap.size (fun k_ => (P0_ k_ ∨ w.heap.size ≤ k_)) (.slice A0 l0.length c0) l0 from Kd.V_mono hs0 (fun k_ hk => .inl hk))
 have HB := Aside0.mk (Below.refl w.heap.size w)
 have H : (if (l0.length : Int) > 0 then ((plane_checkPoints.f k (([l0] : List (List (S23))))).bind fun t104 => (if t104 = 0 then ((plane_corners.f l0).bind fun t105 => ((slices_Equal_93.f k t105 l0).bind fun t108 => (some t108))) else (some false))) else (some false)) = some r := h
 clear h
 by_cases c2 : (l0.length : Int) > 0
 ·rw [if_pos c2] at H
  have c2b0 : decide (0 < (l0.length : Int)) = true := decide_eq_true c2
  have c2b1 : decide (0 < l0.length) = true := decide_eq_true (by omega)
  clear c2
  obtain ⟨y101, hy101⟩ : ∃ y_ : List (List (S23)), y_ = (([l0] : List (List (S23)))) := ⟨_, rfl⟩
  replace H : ((plane_checkPoints.f k y101).bind fun t104 => (if t104 = 0 then ((plane_corners.f l0).bind fun t105 => ((slices_Equal_93.f k t105 l0).bind fun t108 => (some t108))) else (some false))) = some r := by first | (rw [hy101]; with_reducible exact H) | (have H2_ := (Option.bind_some _ _).symm.trans H; rw [hy101]; with_reducible exact H2_) | (have H2_ := (Option.bind_some _ _).symm.trans H; with_reducible exact H2_) | with_reducible exact H | (rw [hy101]; exact H) | exact H
  have Ny101 := Aside0.mk hy101
  clear hy101
  replace H := Option.bind_eq_some_iff.mp H
  obtain ⟨t104, A30, H⟩ := H
  replace H : (if t104 = 0 then ((plane_corners.f l0).bind fun t105 => ((slices_Equal_93.f k t105 l0).bind fun t108 => (some t108))) else (some false)) = some r := H
  have A3 := Aside0.mk A30
  clear A30
  by_cases c4 : t104 = 0
  ·rw [if_pos c4] at H
   have c4b0 : (t104 == 0) = true := beq_iff_eq.mpr c4
   have c4b1 : (t104 != 0) = false := bne_eq_false_iff_eq.mpr c4
   clear c4
   replace H := Option.bind_eq_some_iff.mp H
   obtain ⟨t105, A50, H⟩ := H
   replace H : ((slices_Equal_93.f k t105 l0).bind fun t108 => (some t108)) = some r := H
   have A5 := Aside0.mk A50
   clear A50
   replace H := Option.bind_eq_some_iff.mp H
   obtain ⟨t108, A60, H⟩ := H
   replace H : (some t108) = some r := H
   have A6 := Aside0.mk A60
   clear A60
   obtain rfl := Option.some.inj H
   go_enter Try.func47, Try.ntmps47
   go_wp2_with (first | ((with_reducible refine gate_dst (N := 8) rfl ?_); (try (refine gate_guard (by rfl) ?_; dsimp only)); refine Kd.N_lit (Kd.slice 23 k23) _ 53 ?hg (N' := 8) ?hd (xs := ([l0] : List (List (S23)))) (inner := [.slice A0 l0.length c0]) (ok := (fun k_ => (P0_ k_ ∨ w.heap.size ≤ k_))) (okp := (fun k_ => (P0_ k_ ∨ w.heap.size ≤ k_))) ?hr ?hp (fun _ hk => hk) ((show ∀ k_, w.heap.size ≤ k_ → (fun k_ => (P0_ k_ ∨ w.heap.size ≤ k_)) k_ from fun k_ hk => (.inr (Nat.le_trans (below_size (bB0 HB)) hk))) _ (Nat.le_refl _)) (Below.refl _ _) (Nat.le_refl _) (by simp) ?_; (case hd => rfl); (case hg => rfl); (case hr => first | (go_simp; done) | (go_simp; rfl)); (case hp => exact (Reps.one (show Kd.FK (Kd.slice 23 k23) _ _ l0 [.slice A0 l0.length c0] from (Kd.FK_slice_mk (Kd.V_reads' (Kd.V_mono (ok' := (fun k_ => (P0_ k_ ∨ w.heap.size ≤ k_))) (HO0.out) (fun k_ hk => hk))).2.1 (Kd.V_F (Kd.V_mono (ok' := (fun k_ => (P0_ k_ ∨ w.heap.size ≤ k_))) (HO0.out) (fun k_ hk => hk))))) (Reps.none _ _))); intro v102 w7 ho8 hb hg_ hnew_; clear hg_ hnew_; (first | rw [← Ny101.out] at ho8 | (simp only [Int.reduceToNat] at ho8; rw [← Ny101.out] at ho8)); replace HO0 := Aside0.mk (Kd.V_elder' (vB HO0) (Kd.N_base ho8) hb); have HO103 := Aside0.mk (Kd.N_lower ho8 (below_size (bB0 HB))); replace HB := Aside0.mk (below_step (bB0 HB) hb); clear hb ho8; obtain ⟨Ao9, co9, eo9⟩ := Kd.N_slice HO103.out; subst eo9) | (go_at_call 88; (with_reducible refine (plane_checkPoints.calls k _ _ y101 t104 _ ?side1 ?side2 A3.out).mono ?_); (case side1 => repeat (first | exact (Kd.N_reads' HO103.out).2.2 | (with_reducible refine Kd.C_alloc ?_ _) | (with_reducible refine Kd.C_drewN ?_ _) | (with_reducible refine Kd.C_drew ?_))); (case side2 => exact (Kd.N_reads' HO103.out).2.1); rintro e w10 ⟨rfl, hb⟩; replace HO0 := Aside0.mk (Kd.V_below (vB HO0) hb); replace HO103 := Aside0.mk (Kd.N_below (by (with_reducible repeat (first | apply Kd.N_alloc | apply Kd.N_drewN | apply Kd.N_drew)); exact HO103.out) hb); replace HB := Aside0.mk (below_step (bB0 HB) hb); (try clear hb); (try clear hb2); (try clear hk); (try clear hi)) | (go_at_call 92; (with_reducible refine (plane_corners.calls _ _ l0 t105 _ ?side1 ?side2 A5.out).mono ?_); (case side1 => repeat (first | exact (Kd.V_reads' HO0.out).2.2 | (with_reducible refine Kd.C_alloc ?_ _) | (with_reducible refine Kd.C_drewN ?_ _) | (with_reducible refine Kd.C_drew ?_))); (case side2 => exact (Kd.V_reads' HO0.out).2.1); rintro e w11 ⟨v106, rfl, ho0, hb⟩; replace HO0 := Aside0.mk (Kd.V_elder' (vB HO0) (Kd.R_base ho0) hb); replace HO103 := Aside0.mk (Kd.N_elder' (by (with_reducible repeat (first | apply Kd.N_alloc | apply Kd.N_drewN | apply Kd.N_drew)); exact HO103.out) (Kd.R_base ho0) hb); have HO107 := Aside0.mk (Kd.R_lower (Kd.R_newM (M := fun k_ => (w.heap.size ≤ k_)) ho0 (below_size (bB0 HB)) (fun k_ h_ => h_)) (below_size (bB0 HB))); replace HB := Aside0.mk (below_step (bB0 HB) hb); (try clear hb); (try clear hb2); (try clear hk); (try clear hi); (try clear ho0); obtain ⟨Ao12, co12, eo12⟩ := Kd.R_slice HO107.out; subst eo12) | (go_at_call 93; (with_reducible refine (slices_Equal_93.calls k _ _ t105 _ _ l0 t108 _ ?side1 ?side2 ?side3 ?side4 A6.out).mono ?_); (case side1 => exact cB2 HO107); (case side2 => exact (Kd.R_reads' HO107.out).2.1); (case side3 => repeat (first | exact (Kd.V_reads' HO0.out).2.2 | (with_reducible refine Kd.C_alloc ?_ _) | (with_reducible refine Kd.C_drewN ?_ _) | (with_reducible refine Kd.C_drew ?_))); (case side4 => exact (Kd.V_reads' HO0.out).2.1); rintro e w' ⟨rfl, ⟨nd, rfl⟩⟩))
   go_ret
   exact ⟨eB, bB0 HB⟩
  ·rw [if_neg c4] at H
   have c4b0 : (t104 == 0) = false := beq_eq_false_iff_ne.mpr c4
   have c4b1 : (t104 != 0) = true := bne_iff_ne.mpr c4
   obtain rfl := Option.some.inj H
   go_enter Try.func47, Try.ntmps47
   go_wp2_with (first | ((with_reducible refine gate_dst (N := 8) rfl ?_); (try (refine gate_guard (by rfl) ?_; dsimp only)); refine Kd.N_lit (Kd.slice 23 k23) _ 53 ?hg (N' := 8) ?hd (xs := ([l0] : List (List (S23)))) (inner := [.slice A0 l0.length c0]) (ok := (fun k_ => (P0_ k_ ∨ w.heap.size ≤ k_))) (okp := (fun k_ => (P0_ k_ ∨ w.heap.size ≤ k_))) ?hr ?hp (fun _ hk => hk) ((show ∀ k_, w.heap.size ≤ k_ → (fun k_ => (P0_ k_ ∨ w.heap.size ≤ k_)) k_ from fun k_ hk => (.inr (Nat.le_trans (below_size (bB0 HB)) hk))) _ (Nat.le_refl _)) (Below.refl _ _) (Nat.le_refl _) (by simp) ?_; (case hd => rfl); (case hg => rfl); (case hr => first | (go_simp; done) | (go_simp; rfl)); (case hp => exact (Reps.one (show Kd.FK (Kd.slice 23 k23) _ _ l0 [.slice A0 l0.length c0] from (Kd.FK_slice_mk (Kd.V_reads' (Kd.V_mono (ok' := (fun k_ => (P0_ k_ ∨ w.heap.size ≤ k_))) (HO0.out) (fun k_ hk => hk))).2.1 (Kd.V_F (Kd.V_mono (ok' := (fun k_ => (P0_ k_ ∨ w.heap.size ≤ k_))) (HO0.out) (fun k_ hk => hk))))) (Reps.none _ _))); intro v102 w13 ho14 hb hg_ hnew_; clear hg_ hnew_; (first | rw [← Ny101.out] at ho14 | (simp only [Int.reduceToNat] at ho14; rw [← Ny101.out] at ho14)); replace HO0 := Aside0.mk (Kd.V_elder' (vB HO0) (Kd.N_base ho14) hb); have HO103 := Aside0.mk (Kd.N_lower ho14 (below_size (bB0 HB))); replace HB := Aside0.mk (below_step (bB0 HB) hb); clear hb ho14; obtain ⟨Ao15, co15, eo15⟩ := Kd.N_slice HO103.out; subst eo15) | (go_at_call 88; (with_reducible refine (plane_checkPoints.calls k _ _ y101 t104 _ ?side1 ?side2 A3.out).mono ?_); (case side1 => repeat (first | exact (Kd.N_reads' HO103.out).2.2 | (with_reducible refine Kd.C_alloc ?_ _) | (with_reducible refine Kd.C_drewN ?_ _) | (with_reducible refine Kd.C_drew ?_))); (case side2 => exact (Kd.N_reads' HO103.out).2.1); rintro e w16 ⟨rfl, hb⟩; replace HO0 := Aside0.mk (Kd.V_below (vB HO0) hb); replace HO103 := Aside0.mk (Kd.N_below (by (with_reducible repeat (first | apply Kd.N_alloc | apply Kd.N_drewN | apply Kd.N_drew)); exact HO103.out) hb); replace HB := Aside0.mk (below_step (bB0 HB) hb); (try clear hb); (try clear hb2); (try clear hk); (try clear hi)))
   go_ret
   exact ⟨eB, bB0 HB⟩
 ·rw [if_neg c2] at H
  have c2b0 : decide (0 < (l0.length : Int)) = false := decide_eq_false c2
  have c2b1 : decide (0 < l0.length) = false := decide_eq_false (by omega)
  clear c2
  obtain rfl := Option.some.inj H
  go_enter Try.func47, Try.ntmps47
  go_wp2
  go_ret
  exact ⟨eB, bB0 HB⟩
end Go.Proofs.Ytegdcnjjelgpjaa.P
namespace Go.Proofs.Ytegdcnjjelgpjaa.P
open Go.RowKit Go.Proofs.YtegdcnjjelgpjaaW.PrintWords Go.Proofs.YtegdcnjjelgpjaaW.PrintLast Go.Proofs.YtegdcnjjelgpjaaW.PrintMore
attribute [local go_sem] max2_int min2_int max_two min_two max_three min_three max_four min_four   -- for this text's walks alone
set_option linter.unusedVariables false
set_option linter.unusedSimpArgs false
attribute [local go_sem high] eqA23 eqA40
def goosenecklaw01_works.f (k : Nat)  : Option (Bool) := (plane_Nearest.f (-7) 2).bind fun bt101 => ((plane_Half.f 1 2).bind fun bt103 => ((plane_Place.f k 0 0 300 400 10 0).bind fun bt108 => (if bt101.2 = 0 then (if bt103.2.2.2 = 0 then (if bt108.2.2 = 0 then (if bt101.1 = (-3) then (if (bt103.1 == 3 && (bt103.2.1 == 4 && (bt103.2.2.1 == 5))) = true then (if (bt108.1 == 6 && (bt108.2.1 == 8)) = true then ((plane_IsHull.f k (([(⟨bt108.1, bt108.2.1⟩ : S23)] : List (S23)))).bind fun t115 => (some t115)) else (some false)) else (some false)) else (some false)) else (some false)) else (some false)) else (some false))))
theorem goosenecklaw01_works.mono : ∀ k, LeO (goosenecklaw01_works.f k ) (goosenecklaw01_works.f (k + 1) ) := by
 intro  k
 unfold goosenecklaw01_works.f
 repeat' first
   | (with_reducible exact plane_IsHull.mono _ _)
   | (with_reducible exact plane_Place.mono _ _ _ _ _ _ _)
   | (with_reducible exact LeO.refl _)
   | (with_reducible exact LeO.none _)
   | (with_reducible refine LeO.ite ?_ ?_)
   | (with_reducible refine LeO.bind ?_ (fun _ => ?_))
   | exact plane_IsHull.mono _ _
   | exact plane_Place.mono _ _ _ _ _ _ _
   | exact LeO.none _
   | refine LeO.ite ?_ ?_
   | refine LeO.bind ?_ (fun _ => ?_)
set_option maxHeartbeats 8000000 in
set_option maxRecDepth 100000 in
theorem goosenecklaw01_works.callsT (k : Nat)  (r : Bool) (w : World) (hr_ : Aside0 (r = true)) (h : goosenecklaw01_works.f k  = some r) :
  Calls Try.prog 19 #[] w fun e w' => e = .returned (.bool r) ∧ Below w.heap.size w w' := by
 have hu40 := Try.underlying40
 have hu23 := Try.underlying23
 have HB := Aside0.mk (Below.refl w.heap.size w)
 have H : ((plane_Nearest.f (-7) 2).bind fun bt101 => ((plane_Half.f 1 2).bind fun bt103 => ((plane_Place.f k 0 0 300 400 10 0).bind fun bt108 => (if bt101.2 = 0 then (if bt103.2.2.2 = 0 then (if bt108.2.2 = 0 then (if bt101.1 = (-3) then (if (bt103.1 == 3 && (bt103.2.1 == 4 && (bt103.2.2.1 == 5))) = true then (if (bt108.1 == 6 && (bt108.2.1 == 8)) = true then ((plane_IsHull.f k (([(⟨bt108.1, bt108.2.1⟩ : S23)] : List (S23)))).bind fun t115 => (some t115)) else (some false)) else (some false)) else (some false)) else (some false)) else (some false)) else (some false))))) = some r := h
 clear h
 replace H := Option.bind_eq_some_iff.mp H
 obtain ⟨⟨t101, t102⟩, A10, H⟩ := H
 replace H : ((plane_Half.f 1 2).bind fun bt103 => ((plane_Place.f k 0 0 300 400 10 0).bind fun bt108 => (if t102 = 0 then (if bt103.2.2.2 = 0 then (if bt108.2.2 = 0 then (if t101 = (-3) then (if (bt103.1 == 3 && (bt103.2.1 == 4 && (bt103.2.2.1 == 5))) = true then (if (bt108.1 == 6 && (bt108.2.1 == 8)) = true then ((plane_IsHull.f k (([(⟨bt108.1, bt108.2.1⟩ : S23)] : List (S23)))).bind fun t115 => (some t115)) else (some false)) else (some false)) else (some false)) else (some false)) else (some false)) else (some false)))) = some r := H
 have A1 := Aside0.mk A10
 clear A10
 replace H := Option.bind_eq_some_iff.mp H
 obtain ⟨⟨t103, t104, t105, t106⟩, A20, H⟩ := H
 replace H : ((plane_Place.f k 0 0 300 400 10 0).bind fun bt108 => (if t102 = 0 then (if t106 = 0 then (if bt108.2.2 = 0 then (if t101 = (-3) then (if (t103 == 3 && (t104 == 4 && (t105 == 5))) = true then (if (bt108.1 == 6 && (bt108.2.1 == 8)) = true then ((plane_IsHull.f k (([(⟨bt108.1, bt108.2.1⟩ : S23)] : List (S23)))).bind fun t115 => (some t115)) else (some false)) else (some false)) else (some false)) else (some false)) else (some false)) else (some false))) = some r := H
 have A2 := Aside0.mk A20
 clear A20
 replace H := Option.bind_eq_some_iff.mp H
 obtain ⟨⟨t108, t109, t110⟩, A30, H⟩ := H
 replace H : (if t102 = 0 then (if t106 = 0 then (if t110 = 0 then (if t101 = (-3) then (if (t103 == 3 && (t104 == 4 && (t105 == 5))) = true then (if (t108 == 6 && (t109 == 8)) = true then ((plane_IsHull.f k (([(⟨t108, t109⟩ : S23)] : List (S23)))).bind fun t115 => (some t115)) else (some false)) else (some false)) else (some false)) else (some false)) else (some false)) else (some false)) = some r := H
 have A3 := Aside0.mk A30
 clear A30
 by_cases c4 : t102 = 0
 ·rw [if_pos c4] at H
  have c4b0 : (t102 == 0) = true := beq_iff_eq.mpr c4
  have c4b1 : (t102 != 0) = false := bne_eq_false_iff_eq.mpr c4
  clear c4
  by_cases c5 : t106 = 0
  ·rw [if_pos c5] at H
   have c5b0 : (t106 == 0) = true := beq_iff_eq.mpr c5
   have c5b1 : (t106 != 0) = false := bne_eq_false_iff_eq.mpr c5
   clear c5
   by_cases c6 : t110 = 0
   ·rw [if_pos c6] at H
    have c6b0 : (t110 == 0) = true := beq_iff_eq.mpr c6
    have c6b1 : (t110 != 0) = false := bne_eq_false_iff_eq.mpr c6
    clear c6
    by_cases c7 : t101 = (-3)
    ·rw [if_pos c7] at H
     have c7b0 : (t101 == (-3)) = true := beq_iff_eq.mpr c7
     have c7b1 : (t101 != (-3)) = false := bne_eq_false_iff_eq.mpr c7
     clear c7
     by_cases c8 : (t103 == 3 && (t104 == 4 && (t105 == 5))) = true
     ·rw [if_pos c8] at H
      have c8b0 : (t103 == 3 && (t104 == 4 && (t105 == 5))) = true := c8
      (try (have c8b1 : decide (t103 = 3 && (t104 == 4 && (t105 == 5))) = true := by simpa using c8))
      (try (have c8b2 : (t103 == 3 && (t104 == 4 && (t105 == 5))) = true := by simpa using c8))
      clear c8
      by_cases c9 : (t108 == 6 && (t109 == 8)) = true
      ·rw [if_pos c9] at H
       have c9b0 : (t108 == 6 && (t109 == 8)) = true := c9
       (try (have c9b1 : decide (t108 = 6 && (t109 == 8)) = true := by simpa using c9))
       (try (have c9b2 : (t108 == 6 && (t109 == 8)) = true := by simpa using c9))
       clear c9
       obtain ⟨y112, hy112⟩ : ∃ y_ : List (S23), y_ = (([(⟨t108, t109⟩ : S23)] : List (S23))) := ⟨_, rfl⟩
       replace H : ((plane_IsHull.f k y112).bind fun t115 => (some t115)) = some r := by first | (rw [hy112]; with_reducible exact H) | (have H2_ := (Option.bind_some _ _).symm.trans H; rw [hy112]; with_reducible exact H2_) | (have H2_ := (Option.bind_some _ _).symm.trans H; with_reducible exact H2_) | with_reducible exact H | (rw [hy112]; exact H) | exact H
       have Ny112 := Aside0.mk hy112
       clear hy112
       replace H := Option.bind_eq_some_iff.mp H
       obtain ⟨t115, A100, H⟩ := H
       replace H : (some t115) = some r := H
       have A10 := Aside0.mk A100
       clear A100
       obtain rfl := Option.some.inj H
       go_enter Try.func19, Try.ntmps19
       go_wp2_with (first | ((with_reducible refine gate_callee (f := 32) rfl ?_); refine goesL_ (some 8) rfl rfl Try.func32 (by kernel_rfl) rfl #[.int .i64 (-7), .int .i64 2] rfl mB ?_; (with_reducible refine (plane_Nearest.calls (-7) 2 t101 t102 _ A1.out).mono ?_); rintro e w' ⟨rfl, ⟨nd, rfl⟩⟩; refine ⟨_, rfl, ?_⟩) | ((with_reducible refine gate_callee (f := 22) rfl ?_); refine goesL_ (some 12) rfl rfl Try.func22 (by kernel_rfl) rfl #[.int .i64 1, .int .i64 2] rfl mB ?_; (with_reducible refine (plane_Half.calls 1 2 t103 t104 t105 t106 _ A2.out).mono ?_); rintro e w11 ⟨rfl, hb⟩; refine ⟨_, rfl, ?_⟩; replace HB := Aside0.mk (below_step (bB0 HB) hb); (try clear hb); (try clear hb2); (try clear hk); (try clear hi)) | ((with_reducible refine gate_dst (N := 3) rfl ?_); (try (refine gate_guard (by rfl) ?_; dsimp only)); refine boxE (N := 3) (cs := #[.int .i64 0, .int .i64 0, .int .i64 0]) (t := 40) ?_; intro gb107 hg w12 hbox hb; have n0_ := Aside0.mk (below_step (bB0 HB) hb); have BK107 := Aside0.mk (hbox); have GW107 := Aside0.mk (szB hg (below_size (bB0 HB))); have GE107 := GW107; clear HB; have HB := n0_; clear n0_; clear hb hbox hg; have hcz13_0 : w12.cell? ⟨gb107, 0, none⟩ = some (.int .i64 0) := (blk_cell BK107.out 0).trans rfl; have hcz13_1 : w12.cell? ⟨gb107, 1, none⟩ = some (.int .i64 0) := (blk_cell BK107.out 1).trans rfl; have hcz13_2 : w12.cell? ⟨gb107, 2, none⟩ = some (.int .i64 0) := (blk_cell BK107.out 2).trans rfl; have hfz13_0 := blk_frozen BK107.out 0; have hfz13_1 := blk_frozen BK107.out 1; have hfz13_2 := blk_frozen BK107.out 2) | ((with_reducible refine gate_callee (f := 15) rfl ?_); refine goesL_ (some 18) rfl rfl Try.func15 (by kernel_rfl) rfl #[.agg #[.int .i64 0, .int .i64 0], .agg #[.int .i64 300, .int .i64 400], .int .i64 10, .int .i64 0] rfl mB ?_; (with_reducible refine (plane_Place.calls k 0 0 300 400 10 0 t108 t109 t110 _ A3.out).mono ?_); rintro e w14 ⟨rfl, hb⟩; refine ⟨_, rfl, ?_⟩; replace BK107 := Aside0.mk (blk_below (g := gb107) (o := .cells #[.int .i64 t103, .int .i64 t104, .int .i64 t105] 40 (0, 0)) (by (with_reducible repeat (first | refine blk_drewN ?_ _ | refine blk_drew ?_ | refine blk_alloc ?_ _)); refine blk_put (cs := #[.int .i64 t103, .int .i64 t104, .int .i64 0]) ?_ 2 _ rfl; (with_reducible repeat (first | refine blk_drewN ?_ _ | refine blk_drew ?_ | refine blk_alloc ?_ _)); refine blk_put (cs := #[.int .i64 t103, .int .i64 0, .int .i64 0]) ?_ 1 _ rfl; (with_reducible repeat (first | refine blk_drewN ?_ _ | refine blk_drew ?_ | refine blk_alloc ?_ _)); refine blk_put (cs := #[.int .i64 0, .int .i64 0, .int .i64 0]) ?_ 0 _ rfl; (with_reducible repeat (first | refine blk_drewN ?_ _ | refine blk_drew ?_ | refine blk_alloc ?_ _)); exact BK107.out) hb); replace HB := Aside0.mk (below_step (bB1 HB GE107) hb); (try clear hb); (try clear hb2); (try clear hk); (try clear hi)) | ((with_reducible refine gate_dst (N := 5) rfl ?_); (try (refine gate_guard (by rfl) ?_; dsimp only)); refine boxE (N := 5) (cs := #[.int .i64 0, .int .i64 0]) (t := 23) ?_; intro gb111 hg w15 hbox hb; have n0_ := Aside0.mk (blk_below (kB BK107) hb); have n1_ := Aside0.mk (below_step (bB1 HB GE107) hb); have BK111 := Aside0.mk (hbox); have GW111 := Aside0.mk (szB hg (below_size (bB1 HB GE107))); have GE111 := GW111; have NB107_111 := Aside0.mk (neA hg (blk_lt (kB BK107))); have NB111_107 := Aside0.mk (neB hg (blk_lt (kB BK107))); clear BK107; clear HB; have BK107 := n0_; have HB := n1_; clear n0_ n1_; clear hb hbox hg; have hnb16 := NB111_107.out; have hnc16 := NB107_111.out; have hcz17_0 : w15.cell? ⟨gb111, 0, none⟩ = some (.int .i64 0) := (blk_cell BK111.out 0).trans rfl; have hcz17_1 : w15.cell? ⟨gb111, 1, none⟩ = some (.int .i64 0) := (blk_cell BK111.out 1).trans rfl; have hfz17_0 := blk_frozen BK111.out 0; have hfz17_1 := blk_frozen BK111.out 1; have hcz18_0 : w15.cell? ⟨gb107, 0, none⟩ = some (.int .i64 t103) := (blk_cell BK107.out 0).trans rfl; have hcz18_1 : w15.cell? ⟨gb107, 1, none⟩ = some (.int .i64 t104) := (blk_cell BK107.out 1).trans rfl; have hcz18_2 : w15.cell? ⟨gb107, 2, none⟩ = some (.int .i64 t105) := (blk_cell BK107.out 2).trans rfl; have hfz18_0 := blk_frozen BK107.out 0; have hfz18_1 := blk_frozen BK107.out 1; have hfz18_2 := blk_frozen BK107.out 2) | ((with_reducible refine gate_dst (N := 47) rfl ?_); (try (refine gate_guard (by rfl) ?_; dsimp only)); refine Kd.R_lit k23 _ 23 ?hg (N := 47) ?hd (xs := ([(⟨t108, t109⟩ : S23)] : List (S23))) (inner := [.int .i64 t108, .int .i64 t109]) (ok := fun _ => True) (okp := fun _ => True) ?hr ?hp (fun _ hk => hk) trivial (Below.refl _ _) (Nat.le_refl _) (by simp) ?_; (case hd => rfl); (case hg => rfl); (case hr => first | (go_simp; done) | (go_simp; rfl)); (case hp => exact (Reps.c2 (show Kd.M k23 _ _ _ (⟨t108, t109⟩ : S23) [.int .i64 t108, .int .i64 t109] from (k23_mkM _ _ _ (⟨t108, t109⟩ : S23) )) (Reps.none _ _))); intro v113 w19 ho20 hb hg_ hnew_; clear hg_ hnew_; (first | rw [← Ny112.out] at ho20 | (simp only [Int.reduceToNat] at ho20; rw [← Ny112.out] at ho20)); have HO114 := Aside0.mk (Kd.R_lower (Kd.R_newB ho20 (g := gb111) (o := .cells #[.int .i64 t108, .int .i64 t109] 23 (0, 0)) (by (with_reducible repeat (first | refine blk_drewN ?_ _ | refine blk_drew ?_ | refine blk_alloc ?_ _)); refine blk_put (cs := #[.int .i64 t108, .int .i64 0]) ?_ 1 _ rfl; (with_reducible repeat (first | refine blk_drewN ?_ _ | refine blk_drew ?_ | refine blk_alloc ?_ _)); refine blk_put (cs := #[.int .i64 0, .int .i64 0]) ?_ 0 _ rfl; (with_reducible repeat (first | refine blk_drewN ?_ _ | refine blk_drew ?_ | refine blk_alloc ?_ _)); exact BK111.out)) (below_size (bB2 HB GE107 GE111))); replace BK107 := Aside0.mk (blk_below (g := gb107) (o := .cells #[.int .i64 t103, .int .i64 t104, .int .i64 t105] 40 (0, 0)) (by (with_reducible repeat (first | refine blk_drewN ?_ _ | refine blk_drew ?_ | refine blk_alloc ?_ _)); refine blk_far ?_ NB107_111.out _; (with_reducible repeat (first | refine blk_drewN ?_ _ | refine blk_drew ?_ | refine blk_alloc ?_ _)); refine blk_far ?_ NB107_111.out _; (with_reducible repeat (first | refine blk_drewN ?_ _ | refine blk_drew ?_ | refine blk_alloc ?_ _)); exact BK107.out) hb); replace BK111 := Aside0.mk (blk_below (g := gb111) (o := .cells #[.int .i64 t108, .int .i64 t109] 23 (0, 0)) (by (with_reducible repeat (first | refine blk_drewN ?_ _ | refine blk_drew ?_ | refine blk_alloc ?_ _)); refine blk_put (cs := #[.int .i64 t108, .int .i64 0]) ?_ 1 _ rfl; (with_reducible repeat (first | refine blk_drewN ?_ _ | refine blk_drew ?_ | refine blk_alloc ?_ _)); refine blk_put (cs := #[.int .i64 0, .int .i64 0]) ?_ 0 _ rfl; (with_reducible repeat (first | refine blk_drewN ?_ _ | refine blk_drew ?_ | refine blk_alloc ?_ _)); exact BK111.out) hb); replace HB := Aside0.mk (below_step (bB2 HB GE107 GE111) hb); clear hb ho20; obtain ⟨Ao21, co21, eo21⟩ := Kd.R_slice HO114.out; subst eo21) | (go_at_call 47; (with_reducible refine (plane_IsHull.calls k (fun k_ => some k_ = (.slice Ao21 y112.length co21 : Value).ownBlock) _ _ y112 t115 _ ?side1 A10.out).mono ?_); (case side1 => exact Kd.R_V (Kd.R_tight rfl (Kd.R_types (HO114.out) BK107.out (by decide)))); rintro e w22 ⟨rfl, hb⟩; replace HO114 := Aside0.mk (Kd.R_below (rB HO114) hb); replace BK107 := Aside0.mk (blk_below (kB BK107) hb); replace BK111 := Aside0.mk (blk_below (kB BK111) hb); replace HB := Aside0.mk (below_step (bB2 HB GE107 GE111) hb); (try clear hb); (try clear hb2); (try clear hk); (try clear hi)))
       go_ret
       exact ⟨eB, bB2 HB GE107 GE111⟩
      ·rw [if_neg c9] at H
       have c9b0 : (t108 == 6 && (t109 == 8)) = false := by simpa using c9
       (try (have c9b1 : decide (t108 = 6 && (t109 == 8)) = false := by simpa using c9))
       (try (have c9b2 : (t108 == 6 && (t109 == 8)) = false := by simpa using c9))
       (try (have c9b3 : ¬ (t108 = 6 && (t109 == 8)) := by simpa using c9))
       clear c9
       rw [hr_.out] at H
       exact absurd H (by simp)
     ·rw [if_neg c8] at H
      have c8b0 : (t103 == 3 && (t104 == 4 && (t105 == 5))) = false := by simpa using c8
      (try (have c8b1 : decide (t103 = 3 && (t104 == 4 && (t105 == 5))) = false := by simpa using c8))
      (try (have c8b2 : (t103 == 3 && (t104 == 4 && (t105 == 5))) = false := by simpa using c8))
      (try (have c8b3 : ¬ (t103 = 3 && (t104 == 4 && (t105 == 5))) := by simpa using c8))
      clear c8
      rw [hr_.out] at H
      exact absurd H (by simp)
    ·rw [if_neg c7] at H
     have c7b0 : (t101 == (-3)) = false := beq_eq_false_iff_ne.mpr c7
     have c7b1 : (t101 != (-3)) = true := bne_iff_ne.mpr c7
     rw [hr_.out] at H
     exact absurd H (by simp)
   ·rw [if_neg c6] at H
    have c6b0 : (t110 == 0) = false := beq_eq_false_iff_ne.mpr c6
    have c6b1 : (t110 != 0) = true := bne_iff_ne.mpr c6
    rw [hr_.out] at H
    exact absurd H (by simp)
  ·rw [if_neg c5] at H
   have c5b0 : (t106 == 0) = false := beq_eq_false_iff_ne.mpr c5
   have c5b1 : (t106 != 0) = true := bne_iff_ne.mpr c5
   rw [hr_.out] at H
   exact absurd H (by simp)
 ·rw [if_neg c4] at H
  have c4b0 : (t102 == 0) = false := beq_eq_false_iff_ne.mpr c4
  have c4b1 : (t102 != 0) = true := bne_iff_ne.mpr c4
  rw [hr_.out] at H
  exact absurd H (by simp)
theorem goosenecklaw01_works.calls (k : Nat) (r : Bool) (w : World) (h : goosenecklaw01_works.f k = some r) :
  Calls Try.prog 19 #[] w fun e w' => e = .returned (.bool r) ∧ Below w.heap.size w w' := by
 have h1 : goosenecklaw01_works.f 40 = some true := by decide +kernel
 have h2 := at_rounds goosenecklaw01_works.mono (Nat.le_max_left k 40) h
 have h3 := at_rounds goosenecklaw01_works.mono (Nat.le_max_right k 40) h1
 have hr : r = true := Option.some.inj (h2.symm.trans h3)
 exact goosenecklaw01_works.callsT k r w ⟨hr⟩ h
end Go.Proofs.Ytegdcnjjelgpjaa.P
namespace Go.Proofs.Ytegdcnjjelgpjaa.P
open Go.RowKit Go.Proofs.YtegdcnjjelgpjaaW.PrintWords Go.Proofs.YtegdcnjjelgpjaaW.PrintLast Go.Proofs.YtegdcnjjelgpjaaW.PrintMore
attribute [local go_sem] max2_int min2_int max_two min_two max_three min_three max_four min_four   -- for this text's walks alone
set_option linter.unusedVariables false
set_option linter.unusedSimpArgs false
def gooseneckref01_In.f (a0 : Int) (a1 : Int) (a2 : Int) : Option (Bool) := if a0 ≥ a1 then (some (decide (a0 ≤ a2))) else (some false)
set_option maxHeartbeats 8000000 in
set_option maxRecDepth 100000 in
theorem gooseneckref01_In.calls (a0 : Int) (a1 : Int) (a2 : Int) (r : Bool) (w : World) (h : gooseneckref01_In.f a0 a1 a2 = some r) :
  Calls Try.prog 70 #[.int .i64 a0, .int .i64 a1, .int .i64 a2] w fun e w' => e = .returned (.bool r) ∧ Drawn0 w w' := by
 have H : (if a0 ≥ a1 then (some (decide (a0 ≤ a2))) else (some false)) = some r := h
 clear h
 by_cases c4 : a0 ≥ a1
 ·rw [if_pos c4] at H
  have c4b0 : decide (a1 ≤ a0) = true := decide_eq_true c4
  clear c4
  obtain rfl := Option.some.inj H
  go_enter Try.func70, Try.ntmps70
  go_wp2
  go_ret
  exact ⟨by first | rfl | (simp; done) | (simp [*]; done), by repeat (first | exact Drawn0.refl _ | apply Drawn0.step)⟩
 ·rw [if_neg c4] at H
  have c4b0 : decide (a1 ≤ a0) = false := decide_eq_false c4
  clear c4
  obtain rfl := Option.some.inj H
  go_enter Try.func70, Try.ntmps70
  go_wp2
  go_ret
  exact ⟨by first | rfl | (simp; done) | (simp [*]; done), by repeat (first | exact Drawn0.refl _ | apply Drawn0.step)⟩
def gooseneckref01_Is.f (a0_0 : Int) (a0_1 : Int) : Option (Bool) := (gooseneckref01_In.f a0_0 (-16777216) 16777216).bind fun t102 => (if t102 = true then ((gooseneckref01_In.f a0_1 (-16777216) 16777216).bind fun t103 => (some t103)) else (some false))
set_option maxHeartbeats 8000000 in
set_option maxRecDepth 100000 in
theorem gooseneckref01_Is.calls (a0_0 : Int) (a0_1 : Int) (r : Bool) (w : World) (h : gooseneckref01_Is.f a0_0 a0_1 = some r) :
  Calls Try.prog 69 #[.agg #[.int .i64 a0_0, .int .i64 a0_1]] w fun e w' => e = .returned (.bool r) ∧ Below w.heap.size w w' := by
 have hu23 := Try.underlying23
 have HB := Aside0.mk (Below.refl w.heap.size w)
 have H : ((gooseneckref01_In.f a0_0 (-16777216) 16777216).bind fun t102 => (if t102 = true then ((gooseneckref01_In.f a0_1 (-16777216) 16777216).bind fun t103 => (some t103)) else (some false))) = some r := h
 clear h
 replace H := Option.bind_eq_some_iff.mp H
 obtain ⟨t102, A20, H⟩ := H
 replace H : (if t102 = true then ((gooseneckref01_In.f a0_1 (-16777216) 16777216).bind fun t103 => (some t103)) else (some false)) = some r := H
 have A2 := Aside0.mk A20
 clear A20
 by_cases c3 : t102 = true
 ·subst c3
  have H1 : ((gooseneckref01_In.f a0_1 (-16777216) 16777216).bind fun t103 => (some t103)) = some r := by rw [if_pos rfl] at H; exact H
  clear H
  have H := H1
  clear H1
  replace H := Option.bind_eq_some_iff.mp H
  obtain ⟨t103, A40, H⟩ := H
  replace H : (some t103) = some r := H
  have A4 := Aside0.mk A40
  clear A40
  obtain rfl := Option.some.inj H
  go_enter Try.func69, Try.ntmps69
  go_wp2_with (first | ((with_reducible refine gate_dst (N := 1) rfl ?_); refine boxE (N := 1) (cs := #[.int .i64 a0_0, .int .i64 a0_1]) (t := 23) ?_; intro gb101 hg w5 hbox hb; have n0_ := Aside0.mk (below_step (bB0 HB) hb); have BK101 := Aside0.mk (hbox); have GW101 := Aside0.mk (szB hg (below_size (bB0 HB))); have GE101 := GW101; clear HB; have HB := n0_; clear n0_; clear hb hbox hg; have hcz6_0 : w5.cell? ⟨gb101, 0, none⟩ = some (.int .i64 a0_0) := (blk_cell BK101.out 0).trans rfl; have hcz6_1 : w5.cell? ⟨gb101, 1, none⟩ = some (.int .i64 a0_1) := (blk_cell BK101.out 1).trans rfl; have hfz6_0 := blk_frozen BK101.out 0; have hfz6_1 := blk_frozen BK101.out 1) | ((with_reducible refine gate_callee (f := 70) rfl ?_); refine goesL_ (some 5) rfl rfl Try.func70 (by kernel_rfl) rfl #[.int .i64 a0_0, .int .i64 (-16777216), .int .i64 16777216] rfl mB ?_; (with_reducible refine (gooseneckref01_In.calls a0_0 (-16777216) 16777216 true _ A2.out).mono ?_); rintro e w' ⟨rfl, ⟨nd, rfl⟩⟩; refine ⟨_, rfl, ?_⟩) | (go_at_call 70; (with_reducible refine (gooseneckref01_In.calls a0_1 (-16777216) 16777216 t103 _ A4.out).mono ?_); rintro e w' ⟨rfl, ⟨nd, rfl⟩⟩))
  go_ret
  exact ⟨eB, bB1 HB GE101⟩
 ·replace c3 := Bool.eq_false_iff.mpr c3
  subst c3
  have H1 : (some false) = some r := by rw [if_neg (show ¬ (false = true) by decide)] at H; exact H
  clear H
  have H := H1
  clear H1
  obtain rfl := Option.some.inj H
  go_enter Try.func69, Try.ntmps69
  go_wp2_with (first | ((with_reducible refine gate_dst (N := 1) rfl ?_); refine boxE (N := 1) (cs := #[.int .i64 a0_0, .int .i64 a0_1]) (t := 23) ?_; intro gb101 hg w7 hbox hb; have n0_ := Aside0.mk (below_step (bB0 HB) hb); have BK101 := Aside0.mk (hbox); have GW101 := Aside0.mk (szB hg (below_size (bB0 HB))); have GE101 := GW101; clear HB; have HB := n0_; clear n0_; clear hb hbox hg; have hcz8_0 : w7.cell? ⟨gb101, 0, none⟩ = some (.int .i64 a0_0) := (blk_cell BK101.out 0).trans rfl; have hcz8_1 : w7.cell? ⟨gb101, 1, none⟩ = some (.int .i64 a0_1) := (blk_cell BK101.out 1).trans rfl; have hfz8_0 := blk_frozen BK101.out 0; have hfz8_1 := blk_frozen BK101.out 1) | ((with_reducible refine gate_callee (f := 70) rfl ?_); refine goesL_ (some 5) rfl rfl Try.func70 (by kernel_rfl) rfl #[.int .i64 a0_0, .int .i64 (-16777216), .int .i64 16777216] rfl mB ?_; (with_reducible refine (gooseneckref01_In.calls a0_0 (-16777216) 16777216 false _ A2.out).mono ?_); rintro e w' ⟨rfl, ⟨nd, rfl⟩⟩; refine ⟨_, rfl, ?_⟩))
  go_ret
  exact ⟨eB, bB1 HB GE101⟩
def gooseneckref01_Down.f (a0 : Int) (a1 : Int) : Option (Int) := if a1 = 0 then (none) else (if (Int.tmod a0 a1) < 0 then (some (wrap64 ((wrap64 (Int.tdiv a0 a1)) - 1))) else (some (wrap64 (Int.tdiv a0 a1))))
set_option maxHeartbeats 8000000 in
set_option maxRecDepth 100000 in
theorem gooseneckref01_Down.calls (a0 : Int) (a1 : Int) (r : Int) (w : World) (h : gooseneckref01_Down.f a0 a1 = some r) :
  Calls Try.prog 80 #[.int .i64 a0, .int .i64 a1] w fun e w' => e = .returned (.int .i64 r) ∧ Drawn0 w w' := by
 have H : (if a1 = 0 then (none) else (if (Int.tmod a0 a1) < 0 then (some (wrap64 ((wrap64 (Int.tdiv a0 a1)) - 1))) else (some (wrap64 (Int.tdiv a0 a1))))) = some r := h
 clear h
 by_cases c3 : a1 = 0
 ·rw [if_pos c3] at H
  exact absurd H (by simp)
 ·rw [if_neg c3] at H
  have c3b0 : (a1 == 0) = false := beq_eq_false_iff_ne.mpr c3
  have c3b1 : (a1 != 0) = true := bne_iff_ne.mpr c3
  by_cases c4 : (Int.tmod a0 a1) < 0
  ·rw [if_pos c4] at H
   have c4b0 : decide ((Int.tmod a0 a1) < 0) = true := decide_eq_true c4
   clear c4
   obtain rfl := Option.some.inj H
   go_enter Try.func80, Try.ntmps80
   go_wp2
   go_ret
   exact ⟨by first | rfl | (simp; done) | (simp [*]; done), by repeat (first | exact Drawn0.refl _ | apply Drawn0.step)⟩
  ·rw [if_neg c4] at H
   have c4b0 : decide ((Int.tmod a0 a1) < 0) = false := decide_eq_false c4
   clear c4
   obtain rfl := Option.some.inj H
   go_enter Try.func80, Try.ntmps80
   go_wp2
   go_ret
   exact ⟨by first | rfl | (simp; done) | (simp [*]; done), by repeat (first | exact Drawn0.refl _ | apply Drawn0.step)⟩
def gooseneckref01_Near.f (a0 : Int) (a1 : Int) : Option (Int) := (gooseneckref01_Down.f a0 a1).bind fun t101 => (if (wrap64 (2 * (wrap64 (a0 - (wrap64 (t101 * a1)))))) ≥ a1 then (some (wrap64 (t101 + 1))) else (some t101))
set_option maxHeartbeats 8000000 in
set_option maxRecDepth 100000 in
theorem gooseneckref01_Near.calls (a0 : Int) (a1 : Int) (r : Int) (w : World) (h : gooseneckref01_Near.f a0 a1 = some r) :
  Calls Try.prog 81 #[.int .i64 a0, .int .i64 a1] w fun e w' => e = .returned (.int .i64 r) ∧ Drawn0 w w' := by
 have H : ((gooseneckref01_Down.f a0 a1).bind fun t101 => (if (wrap64 (2 * (wrap64 (a0 - (wrap64 (t101 * a1)))))) ≥ a1 then (some (wrap64 (t101 + 1))) else (some t101))) = some r := h
 clear h
 replace H := Option.bind_eq_some_iff.mp H
 obtain ⟨t101, A30, H⟩ := H
 replace H : (if (wrap64 (2 * (wrap64 (a0 - (wrap64 (t101 * a1)))))) ≥ a1 then (some (wrap64 (t101 + 1))) else (some t101)) = some r := H
 have A3 := Aside0.mk A30
 clear A30
 by_cases c4 : (wrap64 (2 * (wrap64 (a0 - (wrap64 (t101 * a1)))))) ≥ a1
 ·rw [if_pos c4] at H
  have c4b0 : decide (a1 ≤ (wrap64 (2 * (wrap64 (a0 - (wrap64 (t101 * a1))))))) = true := decide_eq_true c4
  clear c4
  obtain rfl := Option.some.inj H
  go_enter Try.func81, Try.ntmps81
  go_wp2_with (first | ((with_reducible refine gate_callee (f := 80) rfl ?_); refine goesL_ (some 8) rfl rfl Try.func80 (by kernel_rfl) rfl #[.int .i64 a0, .int .i64 a1] rfl mB ?_; (with_reducible refine (gooseneckref01_Down.calls a0 a1 t101 _ A3.out).mono ?_); rintro e w' ⟨rfl, ⟨nd, rfl⟩⟩; refine ⟨_, rfl, ?_⟩))
  go_ret
  exact ⟨by first | rfl | (simp; done) | (simp [*]; done), by repeat (first | exact Drawn0.refl _ | apply Drawn0.step)⟩
 ·rw [if_neg c4] at H
  have c4b0 : decide (a1 ≤ (wrap64 (2 * (wrap64 (a0 - (wrap64 (t101 * a1))))))) = false := decide_eq_false c4
  clear c4
  obtain rfl := Option.some.inj H
  go_enter Try.func81, Try.ntmps81
  go_wp2_with (first | ((with_reducible refine gate_callee (f := 80) rfl ?_); refine goesL_ (some 8) rfl rfl Try.func80 (by kernel_rfl) rfl #[.int .i64 a0, .int .i64 a1] rfl mB ?_; (with_reducible refine (gooseneckref01_Down.calls a0 a1 t101 _ A3.out).mono ?_); rintro e w' ⟨rfl, ⟨nd, rfl⟩⟩; refine ⟨_, rfl, ?_⟩))
  go_ret
  exact ⟨by first | rfl | (simp; done) | (simp [*]; done), by repeat (first | exact Drawn0.refl _ | apply Drawn0.step)⟩
def gooseneckref01_Sqrt.l0 : Nat → Int → Int → Int → Option (Int)
 | 0, _, _, _ => none
 | k + 1, x0, x3, x4 => if x4 > 0 then (if (wrap64 (x3 + x4)) ≤ 3037000499 then (if (wrap64 ((wrap64 (x3 + x4)) * (wrap64 (x3 + x4)))) ≤ x0 then (gooseneckref01_Sqrt.l0 k x0 (wrap64 (x3 + x4)) (wrap64 (Int.tdiv x4 2))) else (gooseneckref01_Sqrt.l0 k x0 x3 (wrap64 (Int.tdiv x4 2)))) else (gooseneckref01_Sqrt.l0 k x0 x3 (wrap64 (Int.tdiv x4 2)))) else (some x3)
def gooseneckref01_Sqrt.f (k : Nat) (a0 : Int) : Option (Int) := gooseneckref01_Sqrt.l0 k a0 0 2147483648
theorem gooseneckref01_Sqrt.mono_l : ∀ k, (∀ y0 y1 y2, LeO (gooseneckref01_Sqrt.l0 k y0 y1 y2) (gooseneckref01_Sqrt.l0 (k + 1) y0 y1 y2))
 | 0 => fun _ _ _ r h => by simp [gooseneckref01_Sqrt.l0] at h
 | k + 1 => by
  have ih0 := gooseneckref01_Sqrt.mono_l k
  ·intro y0 y1 y2
   unfold gooseneckref01_Sqrt.l0
   repeat' first
   | (with_reducible exact ih0 _ _ _)
   | (with_reducible exact LeO.refl _)
   | (with_reducible exact LeO.none _)
   | (with_reducible refine LeO.ite ?_ ?_)
   | (with_reducible refine LeO.bind ?_ (fun _ => ?_))
   | exact ih0 _ _ _
   | exact LeO.none _
   | refine LeO.ite ?_ ?_
   | refine LeO.bind ?_ (fun _ => ?_)
theorem gooseneckref01_Sqrt.mono : ∀ a0 k, LeO (gooseneckref01_Sqrt.f k a0) (gooseneckref01_Sqrt.f (k + 1) a0) := by
 intro a0 k
 have ih0 := gooseneckref01_Sqrt.mono_l k
 unfold gooseneckref01_Sqrt.f
 repeat' first
   | (with_reducible exact ih0 _ _ _)
   | (with_reducible exact LeO.refl _)
   | (with_reducible exact LeO.none _)
   | (with_reducible refine LeO.ite ?_ ?_)
   | (with_reducible refine LeO.bind ?_ (fun _ => ?_))
   | exact ih0 _ _ _
   | exact LeO.none _
   | refine LeO.ite ?_ ?_
   | refine LeO.bind ?_ (fun _ => ?_)
set_option maxHeartbeats 8000000 in
set_option maxRecDepth 100000 in
theorem gooseneckref01_Sqrt.calls (k : Nat) (a0 : Int) (r : Int) (w : World) (h : gooseneckref01_Sqrt.f k a0 = some r) :
  Calls Try.prog 83 #[.int .i64 a0] w fun e w' => e = .returned (.int .i64 r) ∧ Drawn0 w w' := by
 have H : (gooseneckref01_Sqrt.l0 k a0 0 2147483648) = some r := h
 clear h
 have H' := Aside0.mk H
 clear H
 go_enter Try.func83, Try.ntmps83
 go_wp2
 go_loopg [3, 4] k (fun kq v3 v4 w' => ∃ (x3_1 : Int) (x4_1 : Int), v3 = .int .i64 x3_1 ∧ v4 = .int .i64 x4_1 ∧ Aside0 (gooseneckref01_Sqrt.l0 kq a0 x3_1 x4_1 = some r) ∧ Aside0 (kq ≤ k) ∧ Drawn0 w w')
 case atStart => exact ⟨(0), (2147483648), sB, sB, H', ⟨Nat.le_refl _⟩, by repeat (first | exact Drawn0.refl _ | apply Drawn0.step)⟩
 case round =>
  clear H'
  obtain ⟨x3_1, x4_1, rfl, rfl, HA, HK1, ⟨m1, rfl⟩⟩ := hrel
  cases gk with
  | zero => exact absurd HA.out (by simp [gooseneckref01_Sqrt.l0])
  | succ k1 =>
   have H := HA.out
   clear HA
   simp only [gooseneckref01_Sqrt.l0] at H
   by_cases c2 : x4_1 > 0
   ·rw [if_pos c2] at H
    have c2b0 : decide (0 < x4_1) = true := decide_eq_true c2
    clear c2
    by_cases c3 : (wrap64 (x3_1 + x4_1)) ≤ 3037000499
    ·rw [if_pos c3] at H
     have c3b0 : decide ((wrap64 (x3_1 + x4_1)) ≤ 3037000499) = true := decide_eq_true c3
     clear c3
     by_cases c4 : (wrap64 ((wrap64 (x3_1 + x4_1)) * (wrap64 (x3_1 + x4_1)))) ≤ a0
     ·rw [if_pos c4] at H
      have c4b0 : decide ((wrap64 ((wrap64 (x3_1 + x4_1)) * (wrap64 (x3_1 + x4_1)))) ≤ a0) = true := decide_eq_true c4
      clear c4
      have H' := Aside0.mk H
      clear H
      go_wp2
      go_roundg k1
      case measure => have := HK1.out; omega
      case rel => exact ⟨(wrap64 (x3_1 + x4_1)), (wrap64 (Int.tdiv x4_1 2)), sB, sB, H', ⟨by have := HK1.out; omega⟩, by repeat (first | exact Drawn0.refl _ | apply Drawn0.step)⟩
     ·rw [if_neg c4] at H
      have c4b0 : decide ((wrap64 ((wrap64 (x3_1 + x4_1)) * (wrap64 (x3_1 + x4_1)))) ≤ a0) = false := decide_eq_false c4
      clear c4
      have H' := Aside0.mk H
      clear H
      go_wp2
      go_roundg k1
      case measure => have := HK1.out; omega
      case rel => exact ⟨(x3_1), (wrap64 (Int.tdiv x4_1 2)), sB, sB, H', ⟨by have := HK1.out; omega⟩, by repeat (first | exact Drawn0.refl _ | apply Drawn0.step)⟩
    ·rw [if_neg c3] at H
     have c3b0 : decide ((wrap64 (x3_1 + x4_1)) ≤ 3037000499) = false := decide_eq_false c3
     clear c3
     have H' := Aside0.mk H
     clear H
     go_wp2
     go_roundg k1
     case measure => have := HK1.out; omega
     case rel => exact ⟨(x3_1), (wrap64 (Int.tdiv x4_1 2)), sB, sB, H', ⟨by have := HK1.out; omega⟩, by repeat (first | exact Drawn0.refl _ | apply Drawn0.step)⟩
   ·rw [if_neg c2] at H
    have c2b0 : decide (0 < x4_1) = false := decide_eq_false c2
    clear c2
    obtain rfl := Option.some.inj H
    go_wp2
    go_ret
    exact ⟨by first | rfl | (simp; done) | (simp [*]; done), by repeat (first | exact Drawn0.refl _ | apply Drawn0.step)⟩
end Go.Proofs.Ytegdcnjjelgpjaa.P
namespace Go.Proofs.Ytegdcnjjelgpjaa.P
open Go.RowKit Go.Proofs.YtegdcnjjelgpjaaW.PrintWords Go.Proofs.YtegdcnjjelgpjaaW.PrintLast Go.Proofs.YtegdcnjjelgpjaaW.PrintMore
theorem works_ev : Ev goosenecklaw01_works.f true := Ev.of goosenecklaw01_works.mono (k := 40) (by decide +kernel)
theorem w64 {x : Int} (h0 : -9223372036854775808 ≤ x) (h1 : x ≤ 9223372036854775807) : wrap64 x = x := by unfold wrap64; omega
def inR (x lo hi : Int) : Bool := decide (lo ≤ x) && decide (x ≤ hi)
theorem inR_iff {x lo hi : Int} : inR x lo hi = true ↔ lo ≤ x ∧ x ≤ hi := by simp [inR]
theorem within_eq (x lo hi : Int) : plane_within.f x lo hi = some (inR x lo hi) := by
 unfold plane_within.f inR; split <;> rename_i h <;> simp [h]
theorem In_eq (x lo hi : Int) : gooseneckref01_In.f x lo hi = some (inR x lo hi) := by
 unfold gooseneckref01_In.f inR; split <;> rename_i h
 ·have : lo ≤ x := h
  simp [this]
 ·have : ¬ lo ≤ x := h
  simp [this]
def isP (x y : Int) : Bool := inR x (-16777216) 16777216 && inR y (-16777216) 16777216
theorem isP_iff {x y : Int} : isP x y = true ↔ (-16777216 ≤ x ∧ x ≤ 16777216) ∧ (-16777216 ≤ y ∧ y ≤ 16777216) := by simp [isP, inR]
theorem Is_eq (x y : Int) : gooseneckref01_Is.f x y = some (isP x y) := by
 unfold gooseneckref01_Is.f isP
 rw [In_eq, In_eq]
 cases inR x (-16777216) 16777216 <;> simp
theorem valid_loop (l : List S23) (hl : (l.length : Int) < 9223372036854775807) (d : Nat) : ∀ (i : Nat), l.length - i = d → i ≤ l.length →
  Ev (fun k => plane_valid.l0 k l (l.length : Int) (i : Int)) ((l.drop i).all fun p => isP p.f0 p.f1) := by
 induction d with
 | zero =>
  intro i hd hi
  have he : i = l.length := by omega
  subst he
  refine Ev.step (f := fun _ => some true) (fun k => ?_) (by simpa using Ev.now true)
  simp only [plane_valid.l0]
  rw [if_neg (by omega)]
 | succ d ih =>
  intro i hd hi
  have hlt : i < l.length := by omega
  have hrd : rd_T23 l (i : Int) = l[i] := by
   simp only [rd_T23, Int.toNat_natCast, List.getD_eq_getElem?_getD, List.getElem?_eq_getElem hlt, Option.getD_some]
  have hdrop : l.drop i = l[i] :: l.drop (i + 1) := List.drop_eq_getElem_cons hlt
  have hw : wrap64 ((i : Int) + 1) = ((i + 1 : Nat) : Int) := by rw [w64 (by omega) (by omega)]; rfl
  refine Ev.step (f := fun k => if isP l[i].f0 l[i].f1 = true then plane_valid.l0 k l (l.length : Int) ((i + 1 : Nat) : Int) else some false) (fun k => ?_) ?_
  ·simp only [plane_valid.l0]
   rw [if_pos (by omega), if_pos (by omega), if_pos (by omega), hrd, hw, within_eq, within_eq]
   simp only [Option.bind_some, isP]
   rcases Bool.eq_false_or_eq_true (inR l[i].f0 (-16777216) 16777216) with h | h
   ·simp only [h, if_true, Bool.true_and]
   ·simp [h]
  ·rw [hdrop, List.all_cons]
   cases hp : isP l[i].f0 l[i].f1
   ·simpa using Ev.now false
   ·simpa using ih (i + 1) (by omega) (by omega)
theorem valid_ev (l : List S23) (hl : (l.length : Int) < 9223372036854775807) : Ev (fun k => plane_valid.f k l) (l.all fun p => isP p.f0 p.f1) := by
 have := valid_loop l hl l.length 0 (by omega) (by omega)
 simpa [plane_valid.f] using this
def p2 (j : Nat) : Int := ((2 ^ j : Nat) : Int)
end Go.Proofs.Ytegdcnjjelgpjaa.P
namespace Go.Proofs.Ytegdcnjjelgpjaa.P
open Go.RowKit Go.Proofs.YtegdcnjjelgpjaaW.PrintWords Go.Proofs.YtegdcnjjelgpjaaW.PrintLast Go.Proofs.YtegdcnjjelgpjaaW.PrintMore
attribute [local go_sem] max2_int min2_int max_two min_two max_three min_three max_four min_four   -- for this text's walks alone
set_option linter.unusedVariables false
set_option linter.unusedSimpArgs false
def plane_far.f (k : Nat) (a0_0 : Int) (a0_1 : Int) (a1_0 : Int) (a1_1 : Int) : Option (Int) := (plane_root.f k (wrap64 ((wrap64 ((wrap64 (a1_0 - a0_0)) * (wrap64 (a1_0 - a0_0)))) + (wrap64 ((wrap64 (a1_1 - a0_1)) * (wrap64 (a1_1 - a0_1))))))).bind fun t103 => (some t103)
theorem plane_far.mono : ∀ a0 a1 a2 a3 k, LeO (plane_far.f k a0 a1 a2 a3) (plane_far.f (k + 1) a0 a1 a2 a3) := by
 intro a0 a1 a2 a3 k
 unfold plane_far.f
 repeat' first
   | (with_reducible exact plane_root.mono _ _)
   | (with_reducible exact LeO.refl _)
   | (with_reducible exact LeO.none _)
   | (with_reducible refine LeO.ite ?_ ?_)
   | (with_reducible refine LeO.bind ?_ (fun _ => ?_))
   | exact plane_root.mono _ _
   | exact LeO.none _
   | refine LeO.ite ?_ ?_
   | refine LeO.bind ?_ (fun _ => ?_)
set_option maxHeartbeats 8000000 in
set_option maxRecDepth 100000 in
theorem plane_far.calls (k : Nat) (a0_0 : Int) (a0_1 : Int) (a1_0 : Int) (a1_1 : Int) (r : Int) (w : World) (h : plane_far.f k a0_0 a0_1 a1_0 a1_1 = some r) :
  Calls Try.prog 73 #[.agg #[.int .i64 a0_0, .int .i64 a0_1], .agg #[.int .i64 a1_0, .int .i64 a1_1]] w fun e w' => e = .returned (.int .i64 r) ∧ Below w.heap.size w w' := by
 have hu23 := Try.underlying23
 have HB := Aside0.mk (Below.refl w.heap.size w)
 have H : ((plane_root.f k (wrap64 ((wrap64 ((wrap64 (a1_0 - a0_0)) * (wrap64 (a1_0 - a0_0)))) + (wrap64 ((wrap64 (a1_1 - a0_1)) * (wrap64 (a1_1 - a0_1))))))).bind fun t103 => (some t103)) = some r := h
 clear h
 replace H := Option.bind_eq_some_iff.mp H
 obtain ⟨t103, A30, H⟩ := H
 replace H : (some t103) = some r := H
 have A3 := Aside0.mk A30
 clear A30
 obtain rfl := Option.some.inj H
 go_enter Try.func73, Try.ntmps73
 go_wp2_with (first | ((with_reducible refine gate_dst (N := 2) rfl ?_); refine boxE (N := 2) (cs := #[.int .i64 a0_0, .int .i64 a0_1]) (t := 23) ?_; intro gb101 hg w4 hbox hb; have n0_ := Aside0.mk (below_step (bB0 HB) hb); have BK101 := Aside0.mk (hbox); have GW101 := Aside0.mk (szB hg (below_size (bB0 HB))); have GE101 := GW101; clear HB; have HB := n0_; clear n0_; clear hb hbox hg) | ((with_reducible refine gate_dst (N := 3) rfl ?_); refine boxE (N := 3) (cs := #[.int .i64 a1_0, .int .i64 a1_1]) (t := 23) ?_; intro gb102 hg w5 hbox hb; have n0_ := Aside0.mk (blk_below (kB BK101) hb); have n1_ := Aside0.mk (below_step (bB1 HB GE101) hb); have BK102 := Aside0.mk (hbox); have GW102 := Aside0.mk (szB hg (below_size (bB1 HB GE101))); have GE102 := GW102; have NB101_102 := Aside0.mk (neA hg (blk_lt (kB BK101))); have NB102_101 := Aside0.mk (neB hg (blk_lt (kB BK101))); clear BK101; clear HB; have BK101 := n0_; have HB := n1_; clear n0_ n1_; clear hb hbox hg; have hnb6 := NB102_101.out; have hnc6 := NB101_102.out; have hcz7_0 : w5.cell? ⟨gb102, 0, none⟩ = some (.int .i64 a1_0) := (blk_cell BK102.out 0).trans rfl; have hcz7_1 : w5.cell? ⟨gb102, 1, none⟩ = some (.int .i64 a1_1) := (blk_cell BK102.out 1).trans rfl; have hfz7_0 := blk_frozen BK102.out 0; have hfz7_1 := blk_frozen BK102.out 1; have hcz8_0 : w5.cell? ⟨gb101, 0, none⟩ = some (.int .i64 a0_0) := (blk_cell BK101.out 0).trans rfl; have hcz8_1 : w5.cell? ⟨gb101, 1, none⟩ = some (.int .i64 a0_1) := (blk_cell BK101.out 1).trans rfl; have hfz8_0 := blk_frozen BK101.out 0; have hfz8_1 := blk_frozen BK101.out 1) | (go_at_call 82; (with_reducible refine (plane_root.calls k (wrap64 ((wrap64 ((wrap64 (a1_0 - a0_0)) * (wrap64 (a1_0 - a0_0)))) + (wrap64 ((wrap64 (a1_1 - a0_1)) * (wrap64 (a1_1 - a0_1)))))) t103 _ A3.out).mono ?_); rintro e w' ⟨rfl, ⟨nd, rfl⟩⟩; (try first | exact ⟨rfl, _, World.drewN_drewN _ _ _⟩ | exact ⟨rfl, _, Eq.trans (World.drewN_drewN _ _ _) (congrArg (World.drewN _) (Nat.add_assoc _ _ _))⟩)))
 repeat (go_quiet (first | ((with_reducible refine gate_dst (N := 2) rfl ?_); refine boxE (N := 2) (cs := #[.int .i64 a0_0, .int .i64 a0_1]) (t := 23) ?_; intro gb101 hg w4 hbox hb; have n0_ := Aside0.mk (below_step (bB0 HB) hb); have BK101 := Aside0.mk (hbox); have GW101 := Aside0.mk (szB hg (below_size (bB0 HB))); have GE101 := GW101; clear HB; have HB := n0_; clear n0_; clear hb hbox hg) | ((with_reducible refine gate_dst (N := 3) rfl ?_); refine boxE (N := 3) (cs := #[.int .i64 a1_0, .int .i64 a1_1]) (t := 23) ?_; intro gb102 hg w5 hbox hb; have n0_ := Aside0.mk (blk_below (kB BK101) hb); have n1_ := Aside0.mk (below_step (bB1 HB GE101) hb); have BK102 := Aside0.mk (hbox); have GW102 := Aside0.mk (szB hg (below_size (bB1 HB GE101))); have GE102 := GW102; have NB101_102 := Aside0.mk (neA hg (blk_lt (kB BK101))); have NB102_101 := Aside0.mk (neB hg (blk_lt (kB BK101))); clear BK101; clear HB; have BK101 := n0_; have HB := n1_; clear n0_ n1_; clear hb hbox hg; have hnb6 := NB102_101.out; have hnc6 := NB101_102.out; have hcz7_0 : w5.cell? ⟨gb102, 0, none⟩ = some (.int .i64 a1_0) := (blk_cell BK102.out 0).trans rfl; have hcz7_1 : w5.cell? ⟨gb102, 1, none⟩ = some (.int .i64 a1_1) := (blk_cell BK102.out 1).trans rfl; have hfz7_0 := blk_frozen BK102.out 0; have hfz7_1 := blk_frozen BK102.out 1; have hcz8_0 : w5.cell? ⟨gb101, 0, none⟩ = some (.int .i64 a0_0) := (blk_cell BK101.out 0).trans rfl; have hcz8_1 : w5.cell? ⟨gb101, 1, none⟩ = some (.int .i64 a0_1) := (blk_cell BK101.out 1).trans rfl; have hfz8_0 := blk_frozen BK101.out 0; have hfz8_1 := blk_frozen BK101.out 1) | (go_at_call 82; (with_reducible refine (plane_root.calls k (wrap64 ((wrap64 ((wrap64 (a1_0 - a0_0)) * (wrap64 (a1_0 - a0_0)))) + (wrap64 ((wrap64 (a1_1 - a0_1)) * (wrap64 (a1_1 - a0_1)))))) t103 _ A3.out).mono ?_); rintro e w' ⟨rfl, ⟨nd, rfl⟩⟩; (try first | exact ⟨rfl, _, World.drewN_drewN _ _ _⟩ | exact ⟨rfl, _, Eq.trans (World.drewN_drewN _ _ _) (congrArg (World.drewN _) (Nat.add_assoc _ _ _))⟩))); try go_wp2_with (first | ((with_reducible refine gate_dst (N := 2) rfl ?_); refine boxE (N := 2) (cs := #[.int .i64 a0_0, .int .i64 a0_1]) (t := 23) ?_; intro gb101 hg w4 hbox hb; have n0_ := Aside0.mk (below_step (bB0 HB) hb); have BK101 := Aside0.mk (hbox); have GW101 := Aside0.mk (szB hg (below_size (bB0 HB))); have GE101 := GW101; clear HB; have HB := n0_; clear n0_; clear hb hbox hg) | ((with_reducible refine gate_dst (N := 3) rfl ?_); refine boxE (N := 3) (cs := #[.int .i64 a1_0, .int .i64 a1_1]) (t := 23) ?_; intro gb102 hg w5 hbox hb; have n0_ := Aside0.mk (blk_below (kB BK101) hb); have n1_ := Aside0.mk (below_step (bB1 HB GE101) hb); have BK102 := Aside0.mk (hbox); have GW102 := Aside0.mk (szB hg (below_size (bB1 HB GE101))); have GE102 := GW102; have NB101_102 := Aside0.mk (neA hg (blk_lt (kB BK101))); have NB102_101 := Aside0.mk (neB hg (blk_lt (kB BK101))); clear BK101; clear HB; have BK101 := n0_; have HB := n1_; clear n0_ n1_; clear hb hbox hg; have hnb6 := NB102_101.out; have hnc6 := NB101_102.out; have hcz7_0 : w5.cell? ⟨gb102, 0, none⟩ = some (.int .i64 a1_0) := (blk_cell BK102.out 0).trans rfl; have hcz7_1 : w5.cell? ⟨gb102, 1, none⟩ = some (.int .i64 a1_1) := (blk_cell BK102.out 1).trans rfl; have hfz7_0 := blk_frozen BK102.out 0; have hfz7_1 := blk_frozen BK102.out 1; have hcz8_0 : w5.cell? ⟨gb101, 0, none⟩ = some (.int .i64 a0_0) := (blk_cell BK101.out 0).trans rfl; have hcz8_1 : w5.cell? ⟨gb101, 1, none⟩ = some (.int .i64 a0_1) := (blk_cell BK101.out 1).trans rfl; have hfz8_0 := blk_frozen BK101.out 0; have hfz8_1 := blk_frozen BK101.out 1) | (go_at_call 82; (with_reducible refine (plane_root.calls k (wrap64 ((wrap64 ((wrap64 (a1_0 - a0_0)) * (wrap64 (a1_0 - a0_0)))) + (wrap64 ((wrap64 (a1_1 - a0_1)) * (wrap64 (a1_1 - a0_1)))))) t103 _ A3.out).mono ?_); rintro e w' ⟨rfl, ⟨nd, rfl⟩⟩; (try first | exact ⟨rfl, _, World.drewN_drewN _ _ _⟩ | exact ⟨rfl, _, Eq.trans (World.drewN_drewN _ _ _) (congrArg (World.drewN _) (Nat.add_assoc _ _ _))⟩))))
 go_ret
 exact ⟨eB, bB2 HB GE101 GE102⟩
def gooseneckref01_Far.f (k : Nat) (a0_0 : Int) (a0_1 : Int) (a1_0 : Int) (a1_1 : Int) : Option (Int) := (gooseneckref01_Sqrt.f k (wrap64 ((wrap64 ((wrap64 (a1_0 - a0_0)) * (wrap64 (a1_0 - a0_0)))) + (wrap64 ((wrap64 (a1_1 - a0_1)) * (wrap64 (a1_1 - a0_1))))))).bind fun t103 => (some t103)
theorem gooseneckref01_Far.mono : ∀ a0 a1 a2 a3 k, LeO (gooseneckref01_Far.f k a0 a1 a2 a3) (gooseneckref01_Far.f (k + 1) a0 a1 a2 a3) := by
 intro a0 a1 a2 a3 k
 unfold gooseneckref01_Far.f
 repeat' first
   | (with_reducible exact gooseneckref01_Sqrt.mono _ _)
   | (with_reducible exact LeO.refl _)
   | (with_reducible exact LeO.none _)
   | (with_reducible refine LeO.ite ?_ ?_)
   | (with_reducible refine LeO.bind ?_ (fun _ => ?_))
   | exact gooseneckref01_Sqrt.mono _ _
   | exact LeO.none _
   | refine LeO.ite ?_ ?_
   | refine LeO.bind ?_ (fun _ => ?_)
set_option maxHeartbeats 8000000 in
set_option maxRecDepth 100000 in
theorem gooseneckref01_Far.calls (k : Nat) (a0_0 : Int) (a0_1 : Int) (a1_0 : Int) (a1_1 : Int) (r : Int) (w : World) (h : gooseneckref01_Far.f k a0_0 a0_1 a1_0 a1_1 = some r) :
  Calls Try.prog 87 #[.agg #[.int .i64 a0_0, .int .i64 a0_1], .agg #[.int .i64 a1_0, .int .i64 a1_1]] w fun e w' => e = .returned (.int .i64 r) ∧ Below w.heap.size w w' := by
 have hu23 := Try.underlying23
 have HB := Aside0.mk (Below.refl w.heap.size w)
 have H : ((gooseneckref01_Sqrt.f k (wrap64 ((wrap64 ((wrap64 (a1_0 - a0_0)) * (wrap64 (a1_0 - a0_0)))) + (wrap64 ((wrap64 (a1_1 - a0_1)) * (wrap64 (a1_1 - a0_1))))))).bind fun t103 => (some t103)) = some r := h
 clear h
 replace H := Option.bind_eq_some_iff.mp H
 obtain ⟨t103, A30, H⟩ := H
 replace H : (some t103) = some r := H
 have A3 := Aside0.mk A30
 clear A30
 obtain rfl := Option.some.inj H
 go_enter Try.func87, Try.ntmps87
 go_wp2_with (first | ((with_reducible refine gate_dst (N := 2) rfl ?_); refine boxE (N := 2) (cs := #[.int .i64 a0_0, .int .i64 a0_1]) (t := 23) ?_; intro gb101 hg w4 hbox hb; have n0_ := Aside0.mk (below_step (bB0 HB) hb); have BK101 := Aside0.mk (hbox); have GW101 := Aside0.mk (szB hg (below_size (bB0 HB))); have GE101 := GW101; clear HB; have HB := n0_; clear n0_; clear hb hbox hg) | ((with_reducible refine gate_dst (N := 3) rfl ?_); refine boxE (N := 3) (cs := #[.int .i64 a1_0, .int .i64 a1_1]) (t := 23) ?_; intro gb102 hg w5 hbox hb; have n0_ := Aside0.mk (blk_below (kB BK101) hb); have n1_ := Aside0.mk (below_step (bB1 HB GE101) hb); have BK102 := Aside0.mk (hbox); have GW102 := Aside0.mk (szB hg (below_size (bB1 HB GE101))); have GE102 := GW102; have NB101_102 := Aside0.mk (neA hg (blk_lt (kB BK101))); have NB102_101 := Aside0.mk (neB hg (blk_lt (kB BK101))); clear BK101; clear HB; have BK101 := n0_; have HB := n1_; clear n0_ n1_; clear hb hbox hg; have hnb6 := NB102_101.out; have hnc6 := NB101_102.out; have hcz7_0 : w5.cell? ⟨gb102, 0, none⟩ = some (.int .i64 a1_0) := (blk_cell BK102.out 0).trans rfl; have hcz7_1 : w5.cell? ⟨gb102, 1, none⟩ = some (.int .i64 a1_1) := (blk_cell BK102.out 1).trans rfl; have hfz7_0 := blk_frozen BK102.out 0; have hfz7_1 := blk_frozen BK102.out 1; have hcz8_0 : w5.cell? ⟨gb101, 0, none⟩ = some (.int .i64 a0_0) := (blk_cell BK101.out 0).trans rfl; have hcz8_1 : w5.cell? ⟨gb101, 1, none⟩ = some (.int .i64 a0_1) := (blk_cell BK101.out 1).trans rfl; have hfz8_0 := blk_frozen BK101.out 0; have hfz8_1 := blk_frozen BK101.out 1) | ((with_reducible refine gate_callee (f := 83) rfl ?_); refine goesL_ (some 28) rfl rfl Try.func83 (by kernel_rfl) rfl #[.int .i64 (wrap64 ((wrap64 ((wrap64 (a1_0 - a0_0)) * (wrap64 (a1_0 - a0_0)))) + (wrap64 ((wrap64 (a1_1 - a0_1)) * (wrap64 (a1_1 - a0_1))))))] rfl mB ?_; (with_reducible refine (gooseneckref01_Sqrt.calls k (wrap64 ((wrap64 ((wrap64 (a1_0 - a0_0)) * (wrap64 (a1_0 - a0_0)))) + (wrap64 ((wrap64 (a1_1 - a0_1)) * (wrap64 (a1_1 - a0_1)))))) t103 _ A3.out).mono ?_); rintro e w' ⟨rfl, ⟨nd, rfl⟩⟩; refine ⟨_, rfl, ?_⟩))
 go_ret
 exact ⟨eB, bB2 HB GE101 GE102⟩
end Go.Proofs.Ytegdcnjjelgpjaa.P
namespace Go.Proofs.Ytegdcnjjelgpjaa.P
open Go.RowKit Go.Proofs.YtegdcnjjelgpjaaW.PrintWords Go.Proofs.YtegdcnjjelgpjaaW.PrintLast Go.Proofs.YtegdcnjjelgpjaaW.PrintMore
theorem sq_nonneg (x : Int) : 0 ≤ x * x := by
 rcases Int.le_total 0 x with h | h
 ·exact Int.mul_nonneg h h
 ·exact Int.mul_nonneg_of_nonpos_of_nonpos h h
theorem sq_pos {x : Int} (h : x ≠ 0) : 1 ≤ x * x := by
 have := sq_nonneg x
 have : x * x ≠ 0 := fun e => h (by rcases Int.mul_eq_zero.1 e with e | e <;> exact e)
 omega
end Go.Proofs.Ytegdcnjjelgpjaa.P
namespace Go.Proofs.Ytegdcnjjelgpjaa.P
open Go.RowKit Go.Proofs.YtegdcnjjelgpjaaW.PrintWords Go.Proofs.YtegdcnjjelgpjaaW.PrintLast Go.Proofs.YtegdcnjjelgpjaaW.PrintMore
attribute [local go_sem] max2_int min2_int max_two min_two max_three min_three max_four min_four   -- for this text's walks alone
set_option linter.unusedVariables false
set_option linter.unusedSimpArgs false
def gooseneckref01_points.l0 : Nat → List (S23) → Int → Option (Int)
 | 0, _, _ => none
 | k + 1, x0, x3 => if x3 < (x0.length : Int) then (if 0 ≤ x3 then ((gooseneckref01_Is.f ((rd_T23 x0 x3).f0) ((rd_T23 x0 x3).f1)).bind fun t102 => (if t102 = true then (gooseneckref01_points.l0 k x0 (wrap64 (x3 + 1))) else (some 2))) else (none)) else (some 0)
def gooseneckref01_points.f (k : Nat) (l0 : List (S23)) : Option (Int) := if (l0.length : Int) > 256 then (some 6) else (gooseneckref01_points.l0 k l0 0)
theorem gooseneckref01_points.mono_l : ∀ k, (∀ y0 y1, LeO (gooseneckref01_points.l0 k y0 y1) (gooseneckref01_points.l0 (k + 1) y0 y1))
 | 0 => fun _ _ r h => by simp [gooseneckref01_points.l0] at h
 | k + 1 => by
  have ih0 := gooseneckref01_points.mono_l k
  ·intro y0 y1
   unfold gooseneckref01_points.l0
   repeat' first
   | (with_reducible exact ih0 _ _)
   | (with_reducible exact LeO.refl _)
   | (with_reducible exact LeO.none _)
   | (with_reducible refine LeO.ite ?_ ?_)
   | (with_reducible refine LeO.bind ?_ (fun _ => ?_))
   | exact ih0 _ _
   | exact LeO.none _
   | refine LeO.ite ?_ ?_
   | refine LeO.bind ?_ (fun _ => ?_)
theorem gooseneckref01_points.mono : ∀ a0 k, LeO (gooseneckref01_points.f k a0) (gooseneckref01_points.f (k + 1) a0) := by
 intro a0 k
 have ih0 := gooseneckref01_points.mono_l k
 unfold gooseneckref01_points.f
 repeat' first
   | (with_reducible exact ih0 _ _)
   | (with_reducible exact LeO.refl _)
   | (with_reducible exact LeO.none _)
   | (with_reducible refine LeO.ite ?_ ?_)
   | (with_reducible refine LeO.bind ?_ (fun _ => ?_))
   | exact ih0 _ _
   | exact LeO.none _
   | refine LeO.ite ?_ ?_
   | refine LeO.bind ?_ (fun _ => ?_)
set_option maxHeartbeats 8000000 in
set_option maxRecDepth 100000 in
theorem gooseneckref01_points.calls (k : Nat) (A0 : Option Addr) (c0 : Nat) (l0 : List (S23)) (r : Int) (w : World) (hr0 : Kd.C k23 w A0 l0.length l0) (hc0 : l0.length ≤ c0) (h : gooseneckref01_points.f k l0 = some r) :
  Calls Try.prog 89 #[.slice A0 l0.length c0] w fun e w' => e = .returned (.int .i64 r) ∧ Below w.heap.size w w' := by
 have hu23 := Try.underlying23
 have HR0 := Aside0.mk hr0
 have HC0 := Aside0.mk hc0
 clear hr0 hc0
 have HB := Aside0.mk (Below.refl w.heap.size w)
 have H : (if (l0.length : Int) > 256 then (some 6) else (gooseneckref01_points.l0 k l0 0)) = some r := h
 clear h
 by_cases c2 : (l0.length : Int) > 256
 ·rw [if_pos c2] at H
  have c2b0 : decide (256 < (l0.length : Int)) = true := decide_eq_true c2
  have c2b1 : decide (256 < l0.length) = true := decide_eq_true (by omega)
  clear c2
  obtain rfl := Option.some.inj H
  go_enter Try.func89, Try.ntmps89
  go_wp2
  go_ret
  exact ⟨eB, bB0 HB⟩
 ·rw [if_neg c2] at H
  have c2b0 : decide (256 < (l0.length : Int)) = false := decide_eq_false c2
  have c2b1 : decide (256 < l0.length) = false := decide_eq_false (by omega)
  clear c2
  have H' := Aside0.mk H
  clear H
  go_enter Try.func89, Try.ntmps89
  go_wp2
  go_loopg [3] k (fun kq v3 w' => ∃ (x3_1 : Int), v3 = .int .i64 x3_1 ∧ Aside0 (gooseneckref01_points.l0 kq l0 x3_1 = some r) ∧ Aside0 (kq ≤ k) ∧ Aside0 (Below w.heap.size w w'))
  case atStart => exact ⟨(0), sB, H', ⟨Nat.le_refl _⟩, ⟨bB0 HB⟩⟩
  case round =>
   clear H'
   try clear c2
   try clear c2b0
   try clear c2b1
   try clear p2
   obtain ⟨x3_1, rfl, HA, HK1, HB⟩ := hrel
   cases gk with
   | zero => exact absurd HA.out (by simp [gooseneckref01_points.l0])
   | succ k1 =>
    have H := HA.out
    clear HA
    simp only [gooseneckref01_points.l0] at H
    by_cases c3 : x3_1 < (l0.length : Int)
    ·rw [if_pos c3] at H
     have c3b0 : decide (x3_1 < (l0.length : Int)) = true := decide_eq_true c3
     clear c3
     by_cases c4 : 0 ≤ x3_1
     ·rw [if_pos c4] at H
      have c4b0 : decide (0 ≤ x3_1) = true := decide_eq_true c4
      clear c4
      replace H := Option.bind_eq_some_iff.mp H
      obtain ⟨t102, A50, H⟩ := H
      replace H : (if t102 = true then (gooseneckref01_points.l0 k1 l0 (wrap64 (x3_1 + 1))) else (some 2)) = some r := H
      have A5 := Aside0.mk A50
      clear A50
      by_cases c6 : t102 = true
      ·subst c6
       have H1 : (gooseneckref01_points.l0 k1 l0 (wrap64 (x3_1 + 1))) = some r := by rw [if_pos rfl] at H; exact H
       clear H
       have H := H1
       clear H1
       have H' := Aside0.mk H
       clear H
       have p101 : 0 ≤ (x3_1 : Int) := oB
       have q101 : x3_1 < (l0.length : Int) := oB
       obtain ⟨ad101, e101, hx101_0, hx101_1⟩ := at_T23 HR0.out x3_1 p101 q101
       cases e101
       replace hx101_0 := (HB.out.cell (World.block_lt_of_cell? w _ hx101_0)).trans hx101_0
       replace hx101_1 := (HB.out.cell (World.block_lt_of_cell? w _ hx101_1)).trans hx101_1
       replace p101 := eq_true p101
       replace q101 := eq_true q101
       go_wp2_with (first | ((with_reducible refine gate_callee (f := 69) rfl ?_); refine goesL_ (some 17) rfl rfl Try.func69 (by kernel_rfl) rfl #[.agg #[.int .i64 ((rd_T23 l0 x3_1).f0), .int .i64 ((rd_T23 l0 x3_1).f1)]] rfl mB ?_; (with_reducible refine (gooseneckref01_Is.calls ((rd_T23 l0 x3_1).f0) ((rd_T23 l0 x3_1).f1) true _ A5.out).mono ?_); rintro e w7 ⟨rfl, hb⟩; refine ⟨_, rfl, ?_⟩; replace HB := Aside0.mk (below_step (bB0 HB) hb); (try clear hb); (try clear hb2); (try clear hk); (try clear hi)))
       go_roundg k1
       case measure => have := HK1.out; omega
       case rel => exact ⟨(wrap64 (x3_1 + 1)), sB, H', ⟨by have := HK1.out; omega⟩, ⟨bB0 HB⟩⟩
      ·replace c6 := Bool.eq_false_iff.mpr c6
       subst c6
       have H1 : (some 2) = some r := by rw [if_neg (show ¬ (false = true) by decide)] at H; exact H
       clear H
       have H := H1
       clear H1
       obtain rfl := Option.some.inj H
       have p101 : 0 ≤ (x3_1 : Int) := oB
       have q101 : x3_1 < (l0.length : Int) := oB
       obtain ⟨ad101, e101, hx101_0, hx101_1⟩ := at_T23 HR0.out x3_1 p101 q101
       cases e101
       replace hx101_0 := (HB.out.cell (World.block_lt_of_cell? w _ hx101_0)).trans hx101_0
       replace hx101_1 := (HB.out.cell (World.block_lt_of_cell? w _ hx101_1)).trans hx101_1
       replace p101 := eq_true p101
       replace q101 := eq_true q101
       go_wp2_with (first | ((with_reducible refine gate_callee (f := 69) rfl ?_); refine goesL_ (some 17) rfl rfl Try.func69 (by kernel_rfl) rfl #[.agg #[.int .i64 ((rd_T23 l0 x3_1).f0), .int .i64 ((rd_T23 l0 x3_1).f1)]] rfl mB ?_; (with_reducible refine (gooseneckref01_Is.calls ((rd_T23 l0 x3_1).f0) ((rd_T23 l0 x3_1).f1) false _ A5.out).mono ?_); rintro e w8 ⟨rfl, hb⟩; refine ⟨_, rfl, ?_⟩; replace HB := Aside0.mk (below_step (bB0 HB) hb); (try clear hb); (try clear hb2); (try clear hk); (try clear hi)))
       go_ret
       exact ⟨eB, bB0 HB⟩
     ·rw [if_neg c4] at H
      exact absurd H (by simp)
    ·rw [if_neg c3] at H
     have c3b0 : decide (x3_1 < (l0.length : Int)) = false := decide_eq_false c3
     clear c3
     obtain rfl := Option.some.inj H
     go_wp2
     go_ret
     exact ⟨eB, bB0 HB⟩
end Go.Proofs.Ytegdcnjjelgpjaa.P
namespace Go.Proofs.Ytegdcnjjelgpjaa.P
open Go.RowKit Go.Proofs.YtegdcnjjelgpjaaW.PrintWords Go.Proofs.YtegdcnjjelgpjaaW.PrintLast Go.Proofs.YtegdcnjjelgpjaaW.PrintMore
theorem rd23_nat (l : List S23) (i : Nat) (h : i < l.length) : rd_T23 l (i : Int) = l[i] := by
 simp only [rd_T23, Int.toNat_natCast, List.getD_eq_getElem?_getD, List.getElem?_eq_getElem h, Option.getD_some]
theorem wrap_nat (i : Nat) (h : (i : Int) < 9223372036854775807) : wrap64 ((i : Int) + 1) = ((i + 1 : Nat) : Int) := by rw [w64 (by omega) (by omega)]; rfl
def okP (l : List S23) : Bool := l.all fun p => isP p.f0 p.f1
def errP (l : List S23) : Int := if 256 < l.length then 6 else if okP l = true then 0 else 2
theorem points_loop (l : List S23) (hl : (l.length : Int) ≤ 256) (d : Nat) : ∀ (i : Nat), l.length - i = d → i ≤ l.length →
  Ev (fun k => gooseneckref01_points.l0 k l (i : Int)) (if okP (l.drop i) = true then 0 else 2) := by
 induction d with
 | zero =>
  intro i hd hi
  have he : i = l.length := by omega
  subst he
  refine Ev.step (f := fun _ => some 0) (fun k => ?_) (by simpa [okP] using Ev.now 0)
  simp only [gooseneckref01_points.l0]
  rw [if_neg (by omega)]
 | succ d ih =>
  intro i hd hi
  have hlt : i < l.length := by omega
  have hdrop : l.drop i = l[i] :: l.drop (i + 1) := List.drop_eq_getElem_cons hlt
  refine Ev.step (f := fun k => if isP l[i].f0 l[i].f1 = true then gooseneckref01_points.l0 k l ((i + 1 : Nat) : Int) else some 2) (fun k => ?_) ?_
  ·simp only [gooseneckref01_points.l0]
   rw [if_pos (by omega), if_pos (by omega), rd23_nat l i hlt, wrap_nat i (by omega), Is_eq]
   simp only [Option.bind_some]
  ·rw [hdrop, okP, List.all_cons]
   cases hp : isP l[i].f0 l[i].f1
   ·simpa using Ev.now 2
   ·simpa [okP] using ih (i + 1) (by omega) (by omega)
theorem points_ev (l : List S23) : Ev (fun k => gooseneckref01_points.f k l) (errP l) := by
 unfold gooseneckref01_points.f errP
 by_cases h : 256 < l.length
 ·rw [if_pos h]; exact Ev.congr (fun k => by rw [if_pos (by omega)]) (Ev.now _)
 ·rw [if_neg h]
  exact Ev.congr (fun k => by rw [if_neg (by omega)]) (by simpa using points_loop l (by omega) l.length 0 (by omega) (by omega))
theorem rdL2_nat (l : List (List S23)) (i : Nat) (h : i < l.length) : rd_L2 l (i : Int) = l[i] := by
 simp only [rd_L2, Int.toNat_natCast, List.getD_eq_getElem?_getD, List.getElem?_eq_getElem h, Option.getD_some]
def errLs (ls : List (List S23)) : Int := if (ls.any fun l => decide (256 < l.length)) = true then 6 else if (ls.all okP) = true then 0 else 2
theorem checkPoints_loop1 (ls : List (List S23)) (hn : (ls.length : Int) < 9223372036854775807) (hl : ∀ l ∈ ls, l.length ≤ 256) (d : Nat) : ∀ (i : Nat), ls.length - i = d → i ≤ ls.length →
  Ev (fun k => plane_checkPoints.l1 k ls (ls.length : Int) (i : Int)) (if (ls.drop i).all okP = true then 0 else 2) := by
 induction d with
 | zero =>
  intro i hd hi
  have he : i = ls.length := by omega
  subst he
  refine Ev.step (f := fun _ => some 0) (fun k => ?_) (by simpa using Ev.now 0)
  simp only [plane_checkPoints.l1]
  rw [if_neg (by omega)]
 | succ d ih =>
  intro i hd hi
  have hlt : i < ls.length := by omega
  have hdrop : ls.drop i = ls[i] :: ls.drop (i + 1) := List.drop_eq_getElem_cons hlt
  have h256 := hl ls[i] (List.getElem_mem hlt)
  refine Ev.step (f := fun k => (plane_valid.f k ls[i]).bind fun t => if t = true then plane_checkPoints.l1 k ls (ls.length : Int) ((i + 1 : Nat) : Int) else some 2) (fun k => ?_) ?_
  ·simp only [plane_checkPoints.l1]
   rw [if_pos (by omega), if_pos (by omega), if_pos (by omega), rdL2_nat ls i hlt, wrap_nat i (by omega)]
  ·refine Ev.bind (valid_ev ls[i] (by omega)) ?_
   rw [hdrop, List.all_cons]
   cases hp : okP ls[i]
   ·rw [okP] at hp; simpa [hp] using Ev.now 2
   ·have hp2 := hp
    rw [okP] at hp2
    simpa [hp2] using ih (i + 1) (by omega) (by omega)
theorem checkPoints_loop0 (ls : List (List S23)) (hn : (ls.length : Int) < 9223372036854775807) (d : Nat) : ∀ (i : Nat), ls.length - i = d → i ≤ ls.length → (∀ l ∈ ls.take i, l.length ≤ 256) →
  Ev (fun k => plane_checkPoints.l0 k ls ls (ls.length : Int) (i : Int)) (errLs ls) := by
 induction d with
 | zero =>
  intro i hd hi hall
  have he : i = ls.length := by omega
  subst he
  rw [List.take_length] at hall
  refine Ev.step (f := fun k => plane_checkPoints.l1 k ls (ls.length : Int) ((0 : Nat) : Int)) (fun k => ?_) ?_
  ·simp only [plane_checkPoints.l0]
   rw [if_neg (by omega)]
   rfl
  ·have h1 : (ls.any fun l => decide (256 < l.length)) = false := by
    rw [List.any_eq_false]
    intro l hl
    have := hall l hl
    simpa using this
   have := checkPoints_loop1 ls hn hall ls.length 0 (by omega) (by omega)
   unfold errLs
   rw [h1]
   simpa using this
 | succ d ih =>
  intro i hd hi hall
  have hlt : i < ls.length := by omega
  refine Ev.step (f := fun k => if (ls[i].length : Int) > 256 then some 6 else plane_checkPoints.l0 k ls ls (ls.length : Int) ((i + 1 : Nat) : Int)) (fun k => ?_) ?_
  ·simp only [plane_checkPoints.l0]
   rw [if_pos (by omega), if_pos (by omega), if_pos (by omega), rdL2_nat ls i hlt, wrap_nat i (by omega)]
  ·by_cases h : (ls[i].length : Int) > 256
   ·have h1 : (ls.any fun l => decide (256 < l.length)) = true := by
     rw [List.any_eq_true]
     exact ⟨ls[i], List.getElem_mem hlt, by simp; omega⟩
    simp only [if_pos h]
    unfold errLs
    rw [h1, if_pos rfl]
    exact Ev.now _
   ·simp only [if_neg h]
    refine ih (i + 1) (by omega) (by omega) (fun l hl => ?_)
    rw [List.take_succ_eq_append_getElem hlt] at hl
    rcases List.mem_append.1 hl with hl | hl
    ·exact hall l hl
    ·rw [List.mem_singleton.1 hl]; omega
theorem checkPoints_ev (ls : List (List S23)) (hn : (ls.length : Int) < 9223372036854775807) : Ev (fun k => plane_checkPoints.f k ls) (errLs ls) := by
 unfold plane_checkPoints.f
 simpa using checkPoints_loop0 ls hn ls.length 0 (by omega) (by omega) (by simp)
end Go.Proofs.Ytegdcnjjelgpjaa.P
namespace Go.Proofs.Ytegdcnjjelgpjaa.P
open Go.RowKit Go.Proofs.YtegdcnjjelgpjaaW.PrintWords Go.Proofs.YtegdcnjjelgpjaaW.PrintLast Go.Proofs.YtegdcnjjelgpjaaW.PrintMore
set_option linter.unusedVariables false
set_option linter.unusedSimpArgs false
theorem parts_ne (a b : S23) : (!(a.f0 == b.f0) || (!(a.f1 == b.f1))) = !decide (a = b) := ne_parts
theorem Equal_loop (a b : List S23) (hab : a.length = b.length) (hl : (a.length : Int) < 9223372036854775807) (d : Nat) : ∀ (i : Nat), a.length - i = d → i ≤ a.length →
  Ev (fun k => slices_Equal_93.l0 k a b (a.length : Int) (i : Int)) (decide (a.drop i = b.drop i)) := by
 induction d with
 | zero =>
  intro i hd hi
  have he : i = a.length := by omega
  subst he
  have e1 : a.drop a.length = b.drop a.length := by rw [List.drop_of_length_le (by omega), List.drop_of_length_le (by omega)]
  rw [decide_eq_true e1]
  refine Ev.step (f := fun _ => some true) (fun k => ?_) (Ev.now _)
  simp only [slices_Equal_93.l0]
  rw [if_neg (by omega)]
 | succ d ih =>
  intro i hd hi
  have h1 : i < a.length := by omega
  have h2 : i < b.length := by omega
  have ea : a.drop i = a[i] :: a.drop (i + 1) := List.drop_eq_getElem_cons h1
  have eb : b.drop i = b[i] :: b.drop (i + 1) := List.drop_eq_getElem_cons h2
  refine Ev.step (f := fun k => if a[i] = b[i] then slices_Equal_93.l0 k a b (a.length : Int) ((i + 1 : Nat) : Int) else some false) (fun k => ?_) ?_
  ·simp only [slices_Equal_93.l0]
   rw [if_pos (by omega), if_pos (by omega), if_pos (by omega), if_pos (by omega), rd23_nat a i h1, rd23_nat b i h2, wrap_nat i (by omega), parts_ne]
   by_cases e : a[i] = b[i] <;> simp [e]
  ·rw [ea, eb]
   by_cases e : a[i] = b[i]
   ·simp only [e, if_true, List.cons.injEq, true_and]
    exact ih (i + 1) (by omega) (by omega)
   ·have : ¬ (a[i] :: a.drop (i + 1) = b[i] :: b.drop (i + 1)) := fun h => e (List.cons.inj h).1
    rw [decide_eq_false this]
    simpa [e] using Ev.now false
theorem Equal_ev (a b : List S23) (hl : (a.length : Int) < 9223372036854775807) : Ev (fun k => slices_Equal_93.f k a b) (decide (a = b)) := by
 unfold slices_Equal_93.f
 by_cases h : a.length = b.length
 ·refine Ev.congr (fun k => by rw [if_pos (by omega)]) ?_
  simpa using Equal_loop a b h hl a.length 0 (by omega) (by omega)
 ·have : a ≠ b := fun e => h (by rw [e])
  rw [decide_eq_false this]
  exact Ev.congr (fun k => by rw [if_neg (by omega)]) (Ev.now _)
theorem errLs_zero {l : List S23} : errLs [l] = 0 ↔ l.length ≤ 256 ∧ okP l = true := by
 unfold errLs
 by_cases h : 256 < l.length
 ·simp [h]; omega
 ·by_cases h2 : okP l = true <;> simp [h, h2]; omega
theorem okP_mem {l : List S23} : okP l = true ↔ ∀ p ∈ l, (-16777216 ≤ p.f0 ∧ p.f0 ≤ 16777216) ∧ (-16777216 ≤ p.f1 ∧ p.f1 ≤ 16777216) := by
 simp only [okP, List.all_eq_true, isP_iff]
theorem bnd_ok {l : List S23} (h : okP l = true) : bnd l = true := by
 rw [bnd_iff]
 intro p hp
 have := okP_mem.1 h p hp
 unfold Bd; omega
theorem corners_some {l : List S23} (h0 : 0 < l.length) (h1 : l.length ≤ 1048576) (h2 : bnd l = true) : plane_corners.f l = some (hull l) := if_pos ⟨h0, h1, h2⟩
theorem hull_length (l : List S23) : (hull l).length ≤ 2 * l.length := by
 unfold hull Geo.hullOf
 have hs := Geo.sd_length (X := S23.f0) (Y := S23.f1) l
 split
 ·omega
 ·rw [List.length_append, List.length_dropLast, List.length_dropLast]
  have h1 := chain_len (Geo.right S23.f0 S23.f1) (Geo.sd S23.f0 S23.f1 l) []
  have h2 := chain_len (Geo.right S23.f0 S23.f1) (Geo.sd S23.f0 S23.f1 l).reverse []
  unfold Geo.lowC Geo.highC
  rw [List.length_reverse, List.length_reverse]
  simp only [List.length_nil, List.length_reverse, Nat.add_zero] at h1 h2
  omega
def isHullV (l : List S23) : Bool := decide (0 < l.length) && (decide (errLs [l] = 0) && decide (hull l = l))
theorem isHullV_iff {l : List S23} : isHullV l = true ↔ (0 < l.length ∧ l.length ≤ 256 ∧ okP l = true) ∧ hull l = l := by
 unfold isHullV
 simp only [Bool.and_eq_true, decide_eq_true_eq, errLs_zero]
 constructor
 ·rintro ⟨a, ⟨b, c⟩, d⟩; exact ⟨⟨a, b, c⟩, d⟩
 ·rintro ⟨⟨a, b, c⟩, d⟩; exact ⟨a, ⟨b, c⟩, d⟩
theorem IsHull_ev (l : List S23) : Ev (fun k => plane_IsHull.f k l) (isHullV l) := by
 unfold plane_IsHull.f isHullV
 by_cases h0 : 0 < l.length
 ·refine Ev.congr (fun k => by rw [if_pos (by omega)]) ?_
  refine Ev.bind (checkPoints_ev [l] (by simp)) ?_
  by_cases h1 : errLs [l] = 0
  ·have h2 := errLs_zero.1 h1
   refine Ev.congr (fun k => by rw [if_pos h1, corners_some h0 (by omega) (bnd_ok h2.2), Option.bind_some]) ?_
   have hl := hull_length l
   refine Ev.bind (Equal_ev (hull l) l (by omega)) ?_
   simpa [h0, h1] using Ev.now (decide (hull l = l))
  ·refine Ev.congr (fun k => by rw [if_neg h1]) ?_
   simpa [h1] using Ev.now false
 ·refine Ev.congr (fun k => by rw [if_neg (by omega)]) ?_
  simpa [h0] using Ev.now false
end Go.Proofs.Ytegdcnjjelgpjaa.P
namespace Go.Proofs.Ytegdcnjjelgpjaa.P
open Go.RowKit Go.Shelf Go.Proofs.Ytegdcnjjelgpjaa.O Go.Proofs.YtegdcnjjelgpjaaW.PrintWords Go.Proofs.YtegdcnjjelgpjaaW.PrintLast Go.Proofs.YtegdcnjjelgpjaaW.PrintMore
set_option linter.unusedVariables false
set_option linter.unusedSimpArgs false
def errHs (ls : List (List S23)) : Int := if errLs ls ≠ 0 then errLs ls else if (ls.any fun l => !isHullV l) = true then 2 else 0
def plane_checkHulls.f (l0 : List (List (S23))) : Option (Int) := if l0.length ≤ 1000 then some (errHs l0) else none
set_option maxHeartbeats 1000000 in
theorem notHull_calls (A : Option Addr) (c : Nat) (l : List S23) (W : World) (hr : Kd.C k23 W A l.length l) (hc : l.length ≤ c) :
  Calls Try.prog 117 #[.slice A l.length c] W fun e W' => e = .returned (.bool (!isHullV l)) ∧ Below W.heap.size W W' := by
 obtain ⟨k, hk⟩ := (IsHull_ev l).rounds
 have HI := Aside0.mk (plane_IsHull.calls k (fun k => k < W.heap.size) A c l (isHullV l) W ⟨A, c, rfl, hc, Kd.C_F k23_heap hr⟩ hk)
 obtain ⟨b, hb⟩ : ∃ b, isHullV l = b := ⟨_, rfl⟩
 rw [hb] at HI ⊢
 clear hb hr hk
 go_enter Try.func117, Try.ntmps117
 go_wp2_with (go_at_call 47; refine HI.out.mono ?_; rintro e w' ⟨rfl, hb2⟩)
 go_ret
 exact ⟨rfl, hb2⟩
def firstBad (ls : List (List S23)) (r : Int) : Prop := (r = -1 ∧ (ls.any fun l => !isHullV l) = false) ∨ (0 ≤ r ∧ (ls.any fun l => !isHullV l) = true)
set_option maxRecDepth 100000 in
set_option maxHeartbeats 2000000 in
theorem indexBad_in (A : Option Addr) (c : Nat) (ls : List (List S23)) (w : World) (hr : Kd.C (Kd.slice 23 k23) w A ls.length ls) :
  CallsIn Fence.wide 0 Try.prog 127 #[.slice A ls.length c, .func (.func 117) #[] #[]] w fun e w' => (∃ r, e = .returned (.int .i64 r) ∧ firstBad ls r) ∧ Below w.heap.size w w' := by
 have hm := Kd.C_max hr
 have he : ∀ args w, (callFunc 117 args).run Try.prog w = .ok (.enter 117 args) w := enters_of Try.func117 (by kernel_rfl) rfl
 have HR := Aside0.mk hr
 clear hr
 refine callsIn_of_wp Try.func127 rfl trivial ?_ rfl
 simp only [Try.ntmps127, List.size_toArray, List.length_cons, List.length_nil, Nat.reduceAdd, Nat.reduceSub, Array.replicate_succ, Array.replicate_zero, List.push_toArray, List.append_toArray, List.nil_append, List.cons_append]
 gi_wp2
 gi_loopw [8] (fun i wr => ∃ k : Nat, k ≤ ls.length ∧ i = .int .i64 k ∧ Aside0 (((ls.take k).any fun l => !isHullV l) = false) ∧ Aside0 (Below w.heap.size w wr)) (fun i _ => ls.length - (intOf i).toNat)
 case atStart => exact ⟨0, Nat.zero_le _, rfl, ⟨rfl⟩, ⟨Below.refl _ _⟩⟩
 case round =>
  obtain ⟨k, hk, rfl, HN, HB⟩ := hrel
  by_cases hlt : k < ls.length
  ·obtain ⟨ad, A0, c0, rfl, hx, hc0, hC⟩ := at_L2 HR.out (k : Int) (by omega) (by omega)
   rw [rdL2_nat ls k hlt] at hx hc0 hC
   rw [Int.toNat_natCast] at hx
   replace hx := (HB.out.cell (World.block_lt_of_cell? w _ hx)).trans hx
   have hs : (ls.take (k + 1)).any (fun l => !isHullV l) = ((ls.take k).any (fun l => !isHullV l) || !isHullV ls[k]) := by
    rw [List.take_succ_eq_append_getElem hlt, List.any_append]; simp
   have hmem : ls[k] ∈ ls := List.getElem_mem hlt
   obtain ⟨l, hl⟩ : ∃ l, ls[k] = l := ⟨_, rfl⟩
   rw [hl] at hx hc0 hC hs hmem
   have HC := Aside0.mk (callsIn_w (n := 0) (notHull_calls A0 c0 l wr (Kd.C_below hC HB.out) hc0))
   have HS := Aside0.mk hs
   have HM := Aside0.mk hmem
   clear hl hC hc0 hs hmem
   gi_wp2
   refine ⟨trivial, rfl, HC.out.mono ?_⟩
   rintro e W2 ⟨rfl, hb2⟩
   have HB2 := Aside0.mk (HB.out.trans (hb2.mono HB.out.size))
   clear hb2 hx
   obtain ⟨b, hb⟩ : ∃ b, isHullV l = b := ⟨_, rfl⟩
   rw [hb] at HS ⊢
   cases b with
   | true =>
    have HS2 := Aside0.mk (show ((ls.take (k + 1)).any fun l => !isHullV l) = false by rw [HS.out, HN.out]; rfl)
    clear hb
    gi_wp2
    refine ⟨⟨k + 1, by omega, by simp, HS2, HB2⟩, by simp [intOf]; omega⟩
   | false =>
    have HS2 := Aside0.mk (show (ls.any fun l => !isHullV l) = true from List.any_eq_true.2 ⟨l, HM.out, by rw [hb]; rfl⟩)
    clear hb
    gi_wp2
    go_ret
    exact ⟨⟨_, rfl, .inr ⟨by omega, HS2.out⟩⟩, HB2.out⟩
  ·obtain rfl : k = ls.length := by omega
   gi_wp2
   go_ret
   refine ⟨⟨_, rfl, .inl ⟨rfl, ?_⟩⟩, HB.out⟩
   have := HN.out
   rwa [List.take_length] at this
set_option maxHeartbeats 1000000 in
theorem containsBad_in (A : Option Addr) (c : Nat) (ls : List (List S23)) (w : World) (hr : Kd.C (Kd.slice 23 k23) w A ls.length ls) :
  CallsIn Fence.wide 0 Try.prog 116 #[.slice A ls.length c, .func (.func 117) #[] #[]] w fun e w' => e = .returned (.bool (ls.any fun l => !isHullV l)) ∧ Below w.heap.size w w' := by
 have HI := Aside0.mk (indexBad_in A c ls w hr)
 clear hr
 refine callsIn_of_wp Try.func116 rfl trivial ?_ rfl
 simp only [Try.ntmps116, List.size_toArray, List.length_cons, List.length_nil, Nat.reduceAdd, Nat.reduceSub, Array.replicate_succ, Array.replicate_zero, List.push_toArray, List.append_toArray, List.nil_append, List.cons_append]
 gi_wp2
 refine ⟨trivial, rfl, HI.out.mono ?_⟩
 rintro e W2 ⟨⟨r, rfl, hf⟩, hb2⟩
 rcases hf with ⟨rfl, h⟩ | ⟨h0, h⟩
 ·have H := Aside0.mk h
  clear h
  gi_wp2
  go_ret
  exact ⟨by rw [H.out]; rfl, hb2⟩
 ·have H := Aside0.mk h
  have g1 : decide (0 ≤ r) = true := decide_eq_true h0
  clear h
  gi_wp2
  go_ret
  exact ⟨by rw [H.out]; rfl, hb2⟩
set_option maxRecDepth 100000 in
set_option maxHeartbeats 2000000 in
theorem plane_checkHulls.calls (A0 : Option Addr) (c0 : Nat) (l0 : List (List (S23))) (r : Int) (w : World) (hr0 : Kd.C (Kd.slice 23 k23) w A0 l0.length l0) (hc0 : l0.length ≤ c0) (h : plane_checkHulls.f l0 = some r) :
  Calls Try.prog 94 #[.slice A0 l0.length c0] w fun e w' => e = .returned (.int .i64 r) ∧ Below w.heap.size w w' := by
 unfold plane_checkHulls.f at h
 split at h
 case isFalse => cases h
 rename_i hle
 obtain rfl := Option.some.inj h
 clear h
 obtain ⟨k, hk⟩ := (checkPoints_ev l0 (by omega)).rounds
 have HP := Aside0.mk (callsIn_w (n := 0) (plane_checkPoints.calls k A0 c0 l0 (errLs l0) w hr0 hc0 hk))
 obtain ⟨er, her⟩ : ∃ er, errLs l0 = er := ⟨_, rfl⟩
 rw [her] at HP
 have HER := Aside0.mk her
 have HR := Aside0.mk hr0
 clear her hr0 hk
 refine (callsIn_wide (n := 0)).1 (callsIn_of_wp Try.func94 rfl trivial ?_ rfl)
 simp only [Try.ntmps94, List.size_toArray, List.length_cons, List.length_nil, Nat.reduceAdd, Nat.reduceSub, Array.replicate_succ, Array.replicate_zero, List.push_toArray, List.append_toArray, List.nil_append, List.cons_append]
 gi_wp2
 refine ⟨trivial, rfl, HP.out.mono ?_⟩
 rintro e W2 ⟨rfl, hd⟩
 have hb2 : Below w.heap.size w W2 := hd
 have HB2 := Aside0.mk hb2
 have HC := Aside0.mk (containsBad_in A0 c0 l0 W2 (Kd.C_below HR.out hb2))
 clear hd hb2
 by_cases h0 : er ≠ 0
 ·have HE := Aside0.mk (show errHs l0 = er by unfold errHs; rw [HER.out, if_pos h0])
  have x1 : (er != 0) = true := by simpa using h0
  have x2 : (er == 0) = false := by simpa using h0
  clear h0
  gi_wp2
  go_ret
  exact ⟨by rw [HE.out]; rfl, HB2.out⟩
 ·obtain rfl : er = 0 := by simpa using h0
  clear h0
  obtain ⟨b, hb⟩ : ∃ b, (l0.any fun l => !isHullV l) = b := ⟨_, rfl⟩
  rw [hb] at HC
  have HE := Aside0.mk (show errHs l0 = if b = true then 2 else 0 by unfold errHs; rw [HER.out, if_neg (by simp), hb])
  clear hb
  gi_wp2
  refine ⟨trivial, rfl, HC.out.mono ?_⟩
  rintro e W3 ⟨rfl, hb3⟩
  have HB3 := Aside0.mk (HB2.out.trans (hb3.mono HB2.out.size))
  clear hb3
  cases b <;> gi_wp2 <;> go_ret <;> exact ⟨by rw [HE.out]; rfl, HB3.out⟩
end Go.Proofs.Ytegdcnjjelgpjaa.P
namespace Go.Proofs.Ytegdcnjjelgpjaa.P
open Go.RowKit Go.Proofs.YtegdcnjjelgpjaaW.PrintWords Go.Proofs.YtegdcnjjelgpjaaW.PrintLast Go.Proofs.YtegdcnjjelgpjaaW.PrintMore
attribute [local go_sem] max2_int min2_int max_two min_two max_three min_three max_four min_four
set_option linter.unusedVariables false
set_option linter.unusedSimpArgs false
def dotW (x y : Int) (p : S23) : Int := wrap64 (wrap64 (x * p.f0) + wrap64 (y * p.f1))
def loW (x y : Int) (l : List S23) : Int := (l.drop 1).foldl (fun m p => mn m (dotW x y p)) (dotW x y (rd_T23 l 0))
def hiW (x y : Int) (l : List S23) : Int := (l.drop 1).foldl (fun m p => mx m (dotW x y p)) (dotW x y (rd_T23 l 0))
def plane_span.f (a0_0 : Int) (a0_1 : Int) (a0_2 : Int) (l1 : List S23) : Option (Int × Int) := if 0 < l1.length then some (loW a0_0 a0_1 l1, hiW a0_0 a0_1 l1) else none
theorem foldl_take_succ {β : Type} (f : β → S23 → β) (z : β) (l : List S23) (k : Nat) (h : k < l.length) : (l.take (k + 1)).foldl f z = f ((l.take k).foldl f z) l[k] := by
 rw [List.take_succ_eq_append_getElem h, List.foldl_append]; rfl
set_option maxRecDepth 100000 in
set_option maxHeartbeats 8000000 in
theorem plane_span.calls (a0_0 : Int) (a0_1 : Int) (a0_2 : Int) (A1 : Option Addr) (c1 : Nat) (l1 : List (S23)) (r1 : Int) (r2 : Int) (w : World) (hr1 : Kd.C k23 w A1 l1.length l1) (hc1 : l1.length ≤ c1) (h : plane_span.f a0_0 a0_1 a0_2 l1 = some (r1, r2)) :
  Calls Try.prog 104 #[.agg #[.int .i64 a0_0, .int .i64 a0_1, .int .i64 a0_2], .slice A1 l1.length c1] w fun e w' => e = .returned (.tuple #[.int .i64 r1, .int .i64 r2]) ∧ Below w.heap.size w w' := by
 unfold plane_span.f at h
 split at h
 case isFalse => cases h
 rename_i h0
 simp only [Option.some.injEq, Prod.mk.injEq] at h
 obtain ⟨rfl, rfl⟩ := h
 have hu75 := Try.underlying75
 have hu23 := Try.underlying23
 have hm := Kd.C_max hr1
 obtain ⟨ad, rfl, hx0, hx1⟩ := at_T23 hr1 0 (by omega) (by omega)
 have hdr := Kd.C_drop (m := 1) hr1 (by omega) hc1
 obtain ⟨tl, htl⟩ : ∃ t, l1.drop 1 = t := ⟨_, rfl⟩
 have htll : tl.length = l1.length - 1 := by rw [← htl, List.length_drop]
 have hlo := fun (k : Nat) (hk : k < tl.length) (z : Int) => foldl_take_succ (fun m p => mn m (dotW a0_0 a0_1 p)) z tl k hk
 have hhi := fun (k : Nat) (hk : k < tl.length) (z : Int) => foldl_take_succ (fun m p => mx m (dotW a0_0 a0_1 p)) z tl k hk
 rw [htl] at hdr
 obtain ⟨n, hn⟩ : ∃ n, l1.length = n := ⟨_, rfl⟩
 have HLO := Aside0.mk hlo
 have HHI := Aside0.mk hhi
 have HR := Aside0.mk hr1
 have HN := Aside0.mk hn
 have HTL := Aside0.mk (And.intro htl htll)
 have HDR := Aside0.mk hdr
 rw [hn] at hc1 h0 hm htll ⊢
 rw [show ((0 : Int)).toNat = 0 from rfl, show 0 * 2 = 0 from rfl, Addr.add_zero'] at hx0 hx1
 obtain ⟨p0, hp0⟩ : ∃ p, rd_T23 l1 0 = p := ⟨_, rfl⟩
 rw [hp0] at hx0 hx1
 have HP := Aside0.mk hp0
 clear hr1 hn hlo hhi hp0 htl hdr
 obtain ⟨m, rfl⟩ : ∃ m, n = m + 1 := ⟨n - 1, by omega⟩
 have g1 : 1 ≤ m + 1 := by omega
 have g2 : (1 : Int) ≤ ((m + 1 : Nat) : Int) := by omega
 have g3 : decide ((1 : Int) ≤ ((m + 1 : Nat) : Int)) = true := decide_eq_true g2
 have g4 : decide (0 < m + 1) = true := decide_eq_true (by omega)
 have g5 : (0 : Int) < ((m + 1 : Nat) : Int) := by omega
 clear h0
 go_enter Try.func104, Try.ntmps104
 go_wp2_with ((with_reducible refine gate_dst (N := 2) rfl ?_); refine box_event ?hg (N := 2) ?hd (cs := #[.int .i64 a0_0, .int .i64 a0_1, .int .i64 a0_2]) (t := 75) ?hr ?_; (case hd => rfl); (case hg => rfl); (case hr => first | (go_simp; done) | (go_simp; rfl)); intro gb hgb w5 hbox hb; have BX := Aside0.mk hbox; have HB := Aside0.mk hb; have b0 : w5.cell? ⟨gb, 0, none⟩ = some (.int .i64 a0_0) := (blk_cell hbox 0).trans rfl; have b1 : w5.cell? ⟨gb, 1, none⟩ = some (.int .i64 a0_1) := (blk_cell hbox 1).trans rfl; replace hx0 := (hb.cell (World.block_lt_of_cell? w _ hx0)).trans hx0; replace hx1 := (hb.cell (World.block_lt_of_cell? w _ hx1)).trans hx1; clear hbox hb hgb)
 go_quiet (fail)
 have hlt : tl.length = m := by omega
 have hgo : loW a0_0 a0_1 l1 = tl.foldl (fun m p => mn m (dotW a0_0 a0_1 p)) (dotW a0_0 a0_1 p0) ∧ hiW a0_0 a0_1 l1 = tl.foldl (fun m p => mx m (dotW a0_0 a0_1 p)) (dotW a0_0 a0_1 p0) := by
  unfold loW hiW; rw [HTL.out.1, HP.out]; exact ⟨rfl, rfl⟩
 have HGO := Aside0.mk hgo
 have HLT := Aside0.mk hlt
 clear hx0 hx1 b0 b1 hgo hlt htll
 by_cases hm0 : c1 = 1
 ·obtain rfl : m = 0 := by omega
  subst hm0
  go_wp2
  go_loopg [6, 7, 44] 0 (fun gq v6 v7 v44 w' => v44 = .int .i64 0 ∧ v6 = .int .i64 (dotW a0_0 a0_1 p0) ∧ v7 = .int .i64 (dotW a0_0 a0_1 p0) ∧ Aside0 (Below w.heap.size w w'))
  case atStart => exact ⟨rfl, rfl, rfl, ⟨HB.out.trans (pw_below_drewN (Below.refl _ _) _)⟩⟩
  case round =>
   obtain ⟨rfl, rfl, rfl, HB2⟩ := hrel
   go_wp2
   refine bodyPost_ret (results_tmp2 rfl _ _ _) rfl ?_
   have e : tl = [] := List.length_eq_zero_iff.1 HLT.out
   rw [HGO.out.1, HGO.out.2, e]
   exact ⟨rfl, HB2.out⟩
 ·have e1 : ¬ (1 : Nat) = c1 := by omega
  have e2 : ¬ (1 : Int) = (c1 : Int) := by omega
  go_wp2
  go_loopg [6, 7, 44] m (fun gq v6 v7 v44 w' => ∃ k : Nat, k ≤ m ∧ m - k ≤ gq ∧ v44 = .int .i64 k ∧ v6 = .int .i64 ((tl.take k).foldl (fun m p => mn m (dotW a0_0 a0_1 p)) (dotW a0_0 a0_1 p0)) ∧ v7 = .int .i64 ((tl.take k).foldl (fun m p => mx m (dotW a0_0 a0_1 p)) (dotW a0_0 a0_1 p0)) ∧ Aside0 (w'.heap[gb]? = some (.cells #[.int .i64 a0_0, .int .i64 a0_1, .int .i64 a0_2] 75 (0, 0))) ∧ Aside0 (Below w.heap.size w w'))
  case atStart => exact ⟨0, Nat.zero_le _, by omega, rfl, rfl, rfl, ⟨BX.out⟩, ⟨HB.out.trans (pw_below_drewN (Below.refl _ _) _)⟩⟩
  case round =>
   obtain ⟨k, hk, hg, rfl, rfl, rfl, BX2, HB2⟩ := hrel
   by_cases hlt : k < m
   ·have hkl : k < tl.length := by rw [HLT.out]; exact hlt
    have hdr2 := HDR.out
    rw [if_neg hm0] at hdr2
    obtain ⟨ad2, e3, hx0, hx1⟩ := at_T23 hdr2 (k : Int) (by omega) (by omega)
    rw [rd23_get tl k hkl, Int.toNat_natCast] at hx0 hx1
    obtain rfl : ad.add 2 = ad2 := Option.some.inj e3
    have ea : (ad.add 2).add (k * 2) = ⟨ad.block, ad.off + 2 + k * 2, none⟩ := by
     by_cases h : k = 0
     ·subst h; simp [Addr.add]
     ·have h2 : ¬ k * 2 = 0 := by omega
      simp [Addr.add, h2]
    rw [ea] at hx0 hx1
    clear ea
    replace hx0 := (HB2.out.cell (World.block_lt_of_cell? w _ hx0)).trans hx0
    replace hx1 := (HB2.out.cell (World.block_lt_of_cell? w _ hx1)).trans hx1
    have hl := HLO.out k hkl (dotW a0_0 a0_1 p0)
    have hh := HHI.out k hkl (dotW a0_0 a0_1 p0)
    obtain ⟨q, hq⟩ : ∃ q, tl[k] = q := ⟨_, rfl⟩
    rw [hq] at hx0 hx1 hl hh
    generalize (tl.take k).foldl (fun m p => mn m (dotW a0_0 a0_1 p)) (dotW a0_0 a0_1 p0) = lo at hl ⊢
    generalize (tl.take k).foldl (fun m p => mx m (dotW a0_0 a0_1 p)) (dotW a0_0 a0_1 p0) = hi at hh ⊢
    have HL := Aside0.mk hl
    have HH := Aside0.mk hh
    have b0 : (wr.alloc (.cells #[.int .i64 q.f0, .int .i64 q.f1] 23 (0, 0))).cell? ⟨gb, 0, none⟩ = some (.int .i64 a0_0) := (blk_cell (blk_alloc BX2.out _) 0).trans rfl
    have b1 : (wr.alloc (.cells #[.int .i64 q.f0, .int .i64 q.f1] 23 (0, 0))).cell? ⟨gb, 1, none⟩ = some (.int .i64 a0_1) := (blk_cell (blk_alloc BX2.out _) 1).trans rfl
    have hne : gb ≠ wr.heap.size := by have := blk_lt BX2.out; omega
    clear hl hh hq hdr2 e3
    go_wp2
    all_goals
     go_roundg (m - (k + 1))
     case measure => omega
     case rel =>
      refine ⟨k + 1, by omega, Nat.le_refl _, by go_num, ?_, ?_, ⟨blk_alloc BX2.out _⟩, ⟨HB2.out.alloc HB2.out.size _⟩⟩
      ·rw [HL.out]
       unfold mn dotW
       split <;> first | rfl | (exfalso; omega)
      ·rw [HH.out]
       unfold mx dotW
       split <;> first | rfl | (exfalso; omega)
   ·obtain rfl : k = m := by omega
    go_wp2
    refine bodyPost_ret (results_tmp2 rfl _ _ _) rfl ?_
    have e : tl.take k = tl := List.take_of_length_le (by rw [HLT.out]; exact Nat.le_refl _)
    rw [HGO.out.1, HGO.out.2, e]
    exact ⟨rfl, HB2.out⟩
end Go.Proofs.Ytegdcnjjelgpjaa.P
