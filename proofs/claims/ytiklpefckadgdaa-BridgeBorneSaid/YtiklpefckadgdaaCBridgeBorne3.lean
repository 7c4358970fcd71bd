/- The law BridgeBorne answers true at every input and leaves its arguments as they were; no condition. Part 4 of 6. -/
import Derived.Test.YtiklpefckadgdaaCBridgeBorne2
import Derived.Test.YtiklpefckadgdaaCBridgeBorne1
import Derived.Sort.QuietIn
import Derived.Sort.CutIn
import Derived.Test.YtiklpefckadgdaaCBridgeBorne0
namespace Go.Proofs.Ytiklpefckadgdaa.P
open Go.RowKit Go.Shelf Go.Proofs.Ytiklpefckadgdaa.O Go.Proofs.YtiklpefckadgdaaW.PrintWords Go.Proofs.YtiklpefckadgdaaW.PrintLast Go.Proofs.YtiklpefckadgdaaW.PrintMore
attribute [local go_sem] Oper.semAt_some
set_option linter.unusedVariables false
set_option maxHeartbeats 1000000 in
theorem checked_make (v1 v2 v3 v4 v5 v6 : Value) (A1 : Option Addr) (n1 c1 : Nat) (k : Int) (w : World) :
  CallsIn Fence.wide 0 Try.prog 67 #[.agg #[v1, v2, v3, v4, v5, v6], .slice A1 n1 c1, .int .i64 k] w fun e w' => e = .returned (.func (.func 85) #[] #[.pointer (some ⟨w.heap.size, 0, none⟩), .pointer (some ⟨w.heap.size + 1 + 1, 0, none⟩), .pointer (some ⟨w.heap.size + 1, 0, none⟩)]) ∧
   w' = ((w.alloc (.cells #[v1, v2, v3, v4, v5, v6] 24 (0, 0))).alloc (.cells #[.slice A1 n1 c1] 25 (0, 0))).alloc (.cells #[.int .i64 k] 3 (0, 0)) := by
 have hu24 := Try.underlying24
 refine callsIn_of_wp Try.func67 rfl trivial ?_ rfl
 simp only [Try.ntmps67, List.size_toArray, List.length_cons, List.length_nil, Nat.reduceAdd, Nat.reduceSub, Array.replicate_succ, Array.replicate_zero, List.push_toArray, List.append_toArray, List.nil_append, List.cons_append]
 gi_wp2
 go_ret
 exact ⟨rfl, rfl⟩
theorem find_first {α : Type} {p : α → Bool} {L pre : List α} {x : α} (h : (pre ++ [x]) <+: L) (h1 : ∀ y ∈ pre, p y = false) (h2 : p x = true) : L.find? p = some x := by
 obtain ⟨t, rfl⟩ := h
 rw [List.append_assoc, List.find?_append]
 have : pre.find? p = none := List.find?_eq_none.2 fun y hy => by rw [h1 y hy]; decide
 rw [this]
 simp [h2]
theorem spansOk_ms : ∀ {l m s : List Int}, spansOk l m s = true → ∀ (i : Nat), i < l.length → (1 ≤ rd m (i : Int) ∧ rd m (i : Int) ≤ 1073741824) ∧ (1 ≤ rd s (i : Int) ∧ rd s (i : Int) ≤ 1073741824)
 | [], _, _, _, i, h => by simp at h
 | x :: r, y :: ys, z :: zs, hk, i, h => by
  simp only [spansOk, Bool.and_eq_true, inR_iff] at hk
  cases i with
  | zero => exact ⟨hk.2.1, hk.2.2.1⟩
  | succ i =>
   have := spansOk_ms hk.2.2.2 i (by simpa using h)
   simpa [rd] using this
 | _ :: _, [], _, hk, _, _ => by simp [spansOk] at hk
 | _ :: _, _ :: _, [], hk, _, _ => by simp [spansOk] at hk
theorem bearsV_at {l0 l1 l2 : List Int} {a3 a4 a5 : Int} {t : List S35} {tr : Bool} {k : Nat} {x : S29} (hk : k < l0.length) (h : ∀ i, i < k → spanBad l0 l1 l2 a3 (restV a4 a5 tr) t i = none) (hx : spanBad l0 l1 l2 a3 (restV a4 a5 tr) t k = some x) : bearsV l0 l1 l2 a3 a4 a5 t tr = some x := by
 unfold bearsV
 have e : List.range l0.length = List.range k ++ k :: (List.range (l0.length - k - 1)).map (· + (k + 1)) := by
  have : l0.length = k + (1 + (l0.length - k - 1)) := by omega
  conv => lhs; rw [this, List.range_add]
  congr 1
  rw [show 1 + (l0.length - k - 1) = (l0.length - k - 1) + 1 by omega, List.range_succ_eq_map]
  simp [List.map_map, Function.comp_def]
  intro a _; omega
 rw [e, List.findSome?_append]
 have : (List.range k).findSome? (spanBad l0 l1 l2 a3 (restV a4 a5 tr) t) = none := List.findSome?_eq_none_iff.2 fun i hi => h i (List.mem_range.1 hi)
 rw [this]
 simp [hx]
theorem bearsV_none {l0 l1 l2 : List Int} {a3 a4 a5 : Int} {t : List S35} {tr : Bool} (h : ∀ i, i < l0.length → spanBad l0 l1 l2 a3 (restV a4 a5 tr) t i = none) : bearsV l0 l1 l2 a3 a4 a5 t tr = none :=
 List.findSome?_eq_none_iff.2 fun i hi => h i (List.mem_range.1 hi)
theorem results_eb {fn : Func} {p p' : Tmp} (h : fn.results = #[.cell p 29, .cell p' 4]) (tmps : Array Value) (w : World) (g : Nat) (cs : Array Value) (g' : Nat) (v : Value)
  (hp : tmps.getD p undef = .pointer (some ⟨g, 0, none⟩)) (hp' : tmps.getD p' undef = .pointer (some ⟨g', 0, none⟩)) (hg : w.heap[g]? = some (.cells cs 29 (0, 0))) (hc : w.cell? ⟨g', 0, none⟩ = some v) (hs : cs.size = 4) :
  (results fn tmps).run Try.prog w = .ok (.tuple #[.agg cs, v]) w := by
 have hu29 := Try.underlying29
 have h1 : tmps[p]?.getD undef = .pointer (some ⟨g, 0, none⟩) := by simpa using hp
 have h2 : tmps[p']?.getD undef = .pointer (some ⟨g', 0, none⟩) := by simpa using hp'
 have hi : (Try.prog.info? 29).map (·.size) = some cs.size := by rw [hs]; kernel_rfl
 have hb : (isAgg 4).run Try.prog w = .ok false w := by kernel_rfl
 have hl : (loadVar 4 ⟨g', 0, none⟩).run Try.prog w = .ok v w := by
  unfold loadVar
  simp [Sem.run_bind, hb, Result.andThen, go_sem, hc]
 simp [results, h, h1, h2, asAddr, run_loadVar_row w g 29 29 cs (0, 0) _ hg hu29 rfl hi, hl]
structure BInv (B : Nat) (w : World) (bg : Array Value) (rest : Int) (hi : Nat) (ds : List Deferred) (W : World) : Prop where
 below : Below B w W
 size : B + 4 ≤ hi ∧ hi ≤ W.heap.size
 hb : W.heap[B]? = some (.cells bg 24 (0, 0))
 he : W.heap[B + 1]? = some (.cells (effC z29) 29 (0, 0))
 hf : W.heap[B + 1 + 1]? = some (.cells #[.bool false] 4 (0, 0))
 hr : W.heap[B + 1 + 1 + 1]? = some (.cells #[.int .i64 rest] 2 (0, 0))
 coll : Coll (B + 4) hi ds W
theorem BInv.step {B : Nat} {w : World} {bg : Array Value} {rest : Int} {hi X : Nat} {ds : List Deferred} {W W' : World} (h : BInv B w bg rest hi ds W) (hb : Below X W W') (hX : hi ≤ X) : BInv B w bg rest hi ds W' := by
 have h1 := h.size
 have h2 := hb.size
 exact ⟨h.below.trans (hb.mono (by omega)), by omega, keep_below hb (by omega) h.hb, keep_below hb (by omega) h.he, keep_below hb (by omega) h.hf, keep_below hb (by omega) h.hr, h.coll.below hb hX⟩
theorem BInv.up {B : Nat} {w : World} {bg : Array Value} {rest : Int} {hi : Nat} {ds : List Deferred} {W : World} (h : BInv B w bg rest hi ds W) : BInv B w bg rest W.heap.size ds W :=
 ⟨h.below, ⟨by have := h.size; omega, Nat.le_refl _⟩, h.hb, h.he, h.hf, h.hr, h.coll.mono h.size.2⟩
structure BEnd (B : Nat) (w : World) (hi : Nat) (ds : List Deferred) (x : S29) (W : World) : Prop where
 below : Below B w W
 size : B + 4 ≤ hi ∧ hi ≤ W.heap.size
 he : W.heap[B + 1]? = some (.cells (effC x) 29 (0, 0))
 hf : W.heap[B + 1 + 1]? = some (.cells #[.bool true] 4 (0, 0))
 coll : Coll (B + 4) hi ds W
theorem BEnd.step {B : Nat} {w : World} {hi X : Nat} {ds : List Deferred} {x : S29} {W W' : World} (h : BEnd B w hi ds x W) (hb : Below X W W') (hX : hi ≤ X) : BEnd B w hi ds x W' := by
 have h1 := h.size
 have h2 := hb.size
 exact ⟨h.below.trans (hb.mono (by omega)), by omega, keep_below hb (by omega) h.he, keep_below hb (by omega) h.hf, h.coll.below hb hX⟩
theorem bear_store {B hi : Nat} {w : World} {bg : Array Value} {rest : Int} {ds : List Deferred} {V V2 : World} {T : Nat → Prop} (x0 x1 x2 x3 : Int) (J1 : BInv B w bg rest hi ds V2) (hV : Below V.heap.size V V2) (t1 : T (B + 1)) (t2 : T (B + 1 + 1)) :
  Turns T V (((((V2.setCell ⟨B + 1, 0, none⟩ (.int .i64 x0)).setCell ⟨B + 1, 1, none⟩ (.int .i64 x1)).setCell ⟨B + 1, 2, none⟩ (.int .i64 x2)).setCell ⟨B + 1, 3, none⟩ (.int .i64 x3)).setCell ⟨B + 1 + 1, 0, none⟩ (.bool true)) ∧
  BEnd B w hi ds ⟨x0, x1, x2, x3⟩ (((((V2.setCell ⟨B + 1, 0, none⟩ (.int .i64 x0)).setCell ⟨B + 1, 1, none⟩ (.int .i64 x1)).setCell ⟨B + 1, 2, none⟩ (.int .i64 x2)).setCell ⟨B + 1, 3, none⟩ (.int .i64 x3)).setCell ⟨B + 1 + 1, 0, none⟩ (.bool true)) := by
 have n1 : B + 1 ≠ B + 1 + 1 := by omega
 show Turns T V ((put4 V2 (B + 1) ⟨x0, x1, x2, x3⟩).setCell ⟨B + 1 + 1, 0, none⟩ (.bool true)) ∧ BEnd B w hi ds ⟨x0, x1, x2, x3⟩ ((put4 V2 (B + 1) ⟨x0, x1, x2, x3⟩).setCell ⟨B + 1 + 1, 0, none⟩ (.bool true))
 have hbe : Below (B + 1) V2 ((put4 V2 (B + 1) ⟨x0, x1, x2, x3⟩).setCell ⟨B + 1 + 1, 0, none⟩ (.bool true)) := (put4_below (Nat.le_refl _)).setCell (p := ⟨B + 1 + 1, 0, none⟩) (by simp) _
 have q5 : (put4 V2 (B + 1) ⟨x0, x1, x2, x3⟩).heap[B + 1 + 1]? = some (.cells #[.bool false] 4 (0, 0)) := by rw [put4_far (by omega)]; exact J1.hf
 have far : ∀ q, B + 1 + 1 < q → ((put4 V2 (B + 1) ⟨x0, x1, x2, x3⟩).setCell ⟨B + 1 + 1, 0, none⟩ (.bool true)).heap[q]? = V2.heap[q]? := fun q hq => by
  rw [Below.heap_setCell _ _ _ _ (by simp; omega), put4_far (by omega)]
 refine ⟨((Turns.of_below hV).trans (put4_turns t1)).trans (Turns.setCell _ ⟨B + 1 + 1, 0, none⟩ _ t2), J1.below.trans (hbe.mono (by omega)), ⟨J1.size.1, Nat.le_trans J1.size.2 hbe.size⟩, ?_, ?_, J1.coll.same fun q hq _ => far q (by omega)⟩
 ·rw [Below.heap_setCell _ _ _ _ (by simp)]; exact put4_blk _ J1.he
 ·exact blk_set q5 0 (.bool true)
theorem bear_none {B hi : Nat} {w : World} {bg : Array Value} {rest : Int} {ds : List Deferred} {V2 : World} (J1 : BInv B w bg rest hi ds V2) :
  BInv B w bg rest hi ds (((((V2.setCell ⟨B + 1, 0, none⟩ (.int .i64 0)).setCell ⟨B + 1, 1, none⟩ (.int .i64 0)).setCell ⟨B + 1, 2, none⟩ (.int .i64 0)).setCell ⟨B + 1, 3, none⟩ (.int .i64 0)).setCell ⟨B + 1 + 1, 0, none⟩ (.bool false)) := by
 show BInv B w bg rest hi ds ((put4 V2 (B + 1) z29).setCell ⟨B + 1 + 1, 0, none⟩ (.bool false))
 have hbe : Below (B + 1) V2 ((put4 V2 (B + 1) z29).setCell ⟨B + 1 + 1, 0, none⟩ (.bool false)) := (put4_below (Nat.le_refl _)).setCell (p := ⟨B + 1 + 1, 0, none⟩) (by simp) _
 have q5 : (put4 V2 (B + 1) z29).heap[B + 1 + 1]? = some (.cells #[.bool false] 4 (0, 0)) := by rw [put4_far (by omega)]; exact J1.hf
 have far : ∀ q, q ≠ B + 1 → q ≠ B + 1 + 1 → ((put4 V2 (B + 1) z29).setCell ⟨B + 1 + 1, 0, none⟩ (.bool false)).heap[q]? = V2.heap[q]? := fun q h1 h2 => by
  rw [Below.heap_setCell _ _ _ _ (by simpa using h2), put4_far h1]
 refine ⟨J1.below.trans (hbe.mono (by omega)), ⟨J1.size.1, Nat.le_trans J1.size.2 hbe.size⟩, ?_, ?_, ?_, ?_, J1.coll.same fun q hq _ => far q (by omega) (by omega)⟩
 ·rw [far _ (by omega) (by omega)]; exact J1.hb
 ·rw [Below.heap_setCell _ _ _ _ (by simp)]; exact put4_blk _ J1.he
 ·exact blk_set q5 0 (.bool false)
 ·rw [far _ (by omega) (by omega)]; exact J1.hr
set_option maxRecDepth 100000 in
set_option maxHeartbeats 8000000 in
theorem bears_in (A0 A1 A2 At : Option Addr) (c0 c1 c2 ct : Nat) (l0 l1 l2 : List Int) (a3 a4 a5 : Int) (t : List S35) (tr : Bool) (w : World) (e1 : errB l0 l1 l2 a3 a4 a5 = 0) (e2 : errT t = 0)
  (hr0 : Kd.C (Kd.int .i64) w A0 l0.length l0) (hc0 : l0.length ≤ c0) (hr1 : Kd.C (Kd.int .i64) w A1 l1.length l1) (hc1 : l1.length ≤ c1) (hr2 : Kd.C (Kd.int .i64) w A2 l2.length l2) (hc2 : l2.length ≤ c2) (hrt : Kd.C k35 w At t.length t) :
  CallsIn Fence.wide 0 Try.prog 62 #[.agg #[.slice A0 l0.length c0, .slice A1 l1.length c1, .slice A2 l2.length c2, .int .i64 a3, .int .i64 a4, .int .i64 a5], .slice At t.length ct, .bool tr] w fun e W' =>
   e = .returned (.tuple #[.agg (effC (bearsR (bearsV l0 l1 l2 a3 a4 a5 t tr)).1), .bool (bearsR (bearsV l0 l1 l2 a3 a4 a5 t tr)).2]) ∧ Below w.heap.size w W' := by
 have hu24 := Try.underlying24
 have hu29 := Try.underlying29
 have wt : wrap64 (wrap64 (a4 - 1) * a5) = restV a4 a5 true := by
  have g := errB_zero e1
  have r := restV_bd e1 true
  unfold restV at r ⊢
  rw [if_pos rfl] at r ⊢
  rw [w64 (x := a4 - 1) (by omega) (by omega), w64 (by omega) (by omega)]
 have E1 := Aside0.mk e1
 have E2 := Aside0.mk e2
 have HLn := Aside0.mk (show l0.length ≤ 6 ∧ l1.length = l0.length ∧ l2.length = l0.length from ⟨(errB_zero e1).2.1, (errB_zero e1).2.2.1, (errB_zero e1).2.2.2.1⟩)
 clear e1 e2
 obtain ⟨B, hB⟩ : ∃ B, w.heap.size = B := ⟨_, rfl⟩
 refine callsIn_of_wp_marks Try.func62 rfl trivial ?_ rfl
 simp only [Try.ntmps62, List.size_toArray, List.length_cons, List.length_nil, Nat.reduceAdd, Nat.reduceSub, Array.replicate_succ, Array.replicate_zero, List.push_toArray, List.append_toArray, List.nil_append, List.cons_append]
 gi_upto_if 15 with (fail)
 gi_cut [] from 16 (fun wc => BInv B w #[.slice A0 l0.length c0, .slice A1 l1.length c1, .slice A2 l2.length c2, .int .i64 a3, .int .i64 a4, .int .i64 a5] (restV a4 a5 tr) wc.heap.size [] wc)
 case first =>
  have mk : ∀ r : Int, BInv B w #[.slice A0 l0.length c0, .slice A1 l1.length c1, .slice A2 l2.length c2, .int .i64 a3, .int .i64 a4, .int .i64 a5] r (w.heap.size + 4) [] ((((w.alloc (.cells #[.slice A0 l0.length c0, .slice A1 l1.length c1, .slice A2 l2.length c2, .int .i64 a3, .int .i64 a4, .int .i64 a5] 24 (0, 0))).alloc (.cells #[.int .i64 0, .int .i64 0, .int .i64 0, .int .i64 0] 29 (0, 0))).alloc (.cells #[.bool false] 4 (0, 0))).alloc (.cells #[.int .i64 r] 2 (0, 0))) := by
   intro r
   subst hB
   refine ⟨((((Below.refl _ _).alloc (Nat.le_refl _) _).alloc (by simp) _).alloc (by simp; omega) _).alloc (by simp; omega) _, by simp, blk_alloc (blk_alloc (blk_alloc (blk_new _ _) _) _) _, ?_, ?_, ?_, trivial⟩
   ·refine blk_alloc (blk_alloc ?_ _) _
    have := blk_new (w.alloc (.cells #[.slice A0 l0.length c0, .slice A1 l1.length c1, .slice A2 l2.length c2, .int .i64 a3, .int .i64 a4, .int .i64 a5] 24 (0, 0))) (.cells (effC z29) 29 (0, 0))
    rwa [World.size_alloc] at this
   ·refine blk_alloc ?_ _
    have := blk_new ((w.alloc (.cells #[.slice A0 l0.length c0, .slice A1 l1.length c1, .slice A2 l2.length c2, .int .i64 a3, .int .i64 a4, .int .i64 a5] 24 (0, 0))).alloc (.cells (effC z29) 29 (0, 0))) (.cells #[.bool false] 4 (0, 0))
    rwa [World.size_alloc, World.size_alloc] at this
   ·have := blk_new (((w.alloc (.cells #[.slice A0 l0.length c0, .slice A1 l1.length c1, .slice A2 l2.length c2, .int .i64 a3, .int .i64 a4, .int .i64 a5] 24 (0, 0))).alloc (.cells (effC z29) 29 (0, 0))).alloc (.cells #[.bool false] 4 (0, 0))) (.cells #[.int .i64 r] 2 (0, 0))
    rwa [World.size_alloc, World.size_alloc, World.size_alloc] at this
  cases tr with
  | false =>
   have mk := mk 0
   clear wt
   gi_wp2
   gi_meet
   case rel => rw [show restV a4 a5 false = 0 by unfold restV; rw [if_neg (by decide)]]; exact mk.up
  | true =>
   have mk := mk (restV a4 a5 true)
   gi_wp2
   gi_meet
   case rel => exact mk.up
 case rest =>
  clear wt
  obtain ⟨b0, b1, b2, b3, b4, b5⟩ := cells6 hcut.hb
  gi_wp2
  clear b0 b1 b2 b3 b4 b5
  refine wpIn_loop (fun a W => ∃ (k : Nat) (ds : List Deferred) (u9 u10 u11 u12 u13 u14 u26 u27 u28 u29 u30 u31 u32 u33 u34 u35 u36 u37 u38 u39 u40 u41 u42 u43 u44 u45 u46 u47 u48 u49 u50 u51 u52 u53 u54 u55 u56 u57 u58 u59 u60 u61 u62 u63 u64 u65 u66 u67 u68 u69 u70 u71 u72 u73 u74 u75 u76 u77 u78 u79 u80 u81 u82 u83 u84 u85 u86 u87 u88 u89 u90 u91 u92 u93 u94 u95 u96 u97 : Value), a = { tmps := (.agg #[.slice A0 l0.length c0, .slice A1 l1.length c1, .slice A2 l2.length c2, .int .i64 a3, .int .i64 a4, .int .i64 a5] :: .slice At t.length ct :: .bool tr :: .pointer (some ⟨B, 0, none⟩) :: undef :: undef :: .pointer (some ⟨B + 1, 0, none⟩) :: .pointer (some ⟨B + 1 + 1, 0, none⟩) :: .pointer (some ⟨B + 1 + 1 + 1, 0, none⟩) :: u9 :: u10 :: u11 :: u12 :: u13 :: u14 :: .bool tr :: u16 :: u17 :: u18 :: u19 :: u20 :: u21 :: .pointer (some ⟨B, 0, none⟩) :: .slice A0 l0.length c0 :: .int .i64 (l0.length : Int) :: .int .i64 (k : Int) :: u26 :: u27 :: u28 :: u29 :: u30 :: u31 :: u32 :: u33 :: u34 :: u35 :: u36 :: u37 :: u38 :: u39 :: u40 :: u41 :: u42 :: u43 :: u44 :: u45 :: u46 :: u47 :: u48 :: u49 :: u50 :: u51 :: u52 :: u53 :: u54 :: u55 :: u56 :: u57 :: u58 :: u59 :: u60 :: u61 :: u62 :: u63 :: u64 :: u65 :: u66 :: u67 :: u68 :: u69 :: u70 :: u71 :: u72 :: u73 :: u74 :: u75 :: u76 :: u77 :: u78 :: u79 :: u80 :: u81 :: u82 :: u83 :: u84 :: u85 :: u86 :: u87 :: u88 :: u89 :: u90 :: u91 :: u92 :: u93 :: u94 :: u95 :: u96 :: u97 :: u98 :: []).toArray, defers := ds } ∧ k ≤ l0.length ∧ (∀ i, i < k → spanBad l0 l1 l2 a3 (restV a4 a5 tr) t i = none) ∧ BInv B w #[.slice A0 l0.length c0, .slice A1 l1.length c1, .slice A2 l2.length c2, .int .i64 a3, .int .i64 a4, .int .i64 a5] (restV a4 a5 tr) W.heap.size ds W)
   (fun a _ => l0.length - (intOf (a.tmps.getD 25 undef)).toNat) ⟨0, [], _, _, _, _, _, _, _, _, _, _, _, _, _, _, _, _, _, _, _, _, _, _, _, _, _, _, _, _, _, _, _, _, _, _, _, _, _, _, _, _, _, _, _, _, _, _, _, _, _, _, _, _, _, _, _, _, _, _, _, _, _, _, _, _, _, _, _, _, _, _, _, _, _, _, _, _, _, _,  rfl, Nat.zero_le _, fun i h => absurd h (by omega), hcut⟩ ?_
  intro _ W hI
  obtain ⟨k, hI⟩ := hI
  obtain ⟨ds, hI⟩ := hI
  obtain ⟨u9, hI⟩ := hI
  obtain ⟨u10, hI⟩ := hI
  obtain ⟨u11, hI⟩ := hI
  obtain ⟨u12, hI⟩ := hI
  obtain ⟨u13, hI⟩ := hI
  obtain ⟨u14, hI⟩ := hI
  obtain ⟨u26, hI⟩ := hI
  obtain ⟨u27, hI⟩ := hI
  obtain ⟨u28, hI⟩ := hI
  obtain ⟨u29, hI⟩ := hI
  obtain ⟨u30, hI⟩ := hI
  obtain ⟨u31, hI⟩ := hI
  obtain ⟨u32, hI⟩ := hI
  obtain ⟨u33, hI⟩ := hI
  obtain ⟨u34, hI⟩ := hI
  obtain ⟨u35, hI⟩ := hI
  obtain ⟨u36, hI⟩ := hI
  obtain ⟨u37, hI⟩ := hI
  obtain ⟨u38, hI⟩ := hI
  obtain ⟨u39, hI⟩ := hI
  obtain ⟨u40, hI⟩ := hI
  obtain ⟨u41, hI⟩ := hI
  obtain ⟨u42, hI⟩ := hI
  obtain ⟨u43, hI⟩ := hI
  obtain ⟨u44, hI⟩ := hI
  obtain ⟨u45, hI⟩ := hI
  obtain ⟨u46, hI⟩ := hI
  obtain ⟨u47, hI⟩ := hI
  obtain ⟨u48, hI⟩ := hI
  obtain ⟨u49, hI⟩ := hI
  obtain ⟨u50, hI⟩ := hI
  obtain ⟨u51, hI⟩ := hI
  obtain ⟨u52, hI⟩ := hI
  obtain ⟨u53, hI⟩ := hI
  obtain ⟨u54, hI⟩ := hI
  obtain ⟨u55, hI⟩ := hI
  obtain ⟨u56, hI⟩ := hI
  obtain ⟨u57, hI⟩ := hI
  obtain ⟨u58, hI⟩ := hI
  obtain ⟨u59, hI⟩ := hI
  obtain ⟨u60, hI⟩ := hI
  obtain ⟨u61, hI⟩ := hI
  obtain ⟨u62, hI⟩ := hI
  obtain ⟨u63, hI⟩ := hI
  obtain ⟨u64, hI⟩ := hI
  obtain ⟨u65, hI⟩ := hI
  obtain ⟨u66, hI⟩ := hI
  obtain ⟨u67, hI⟩ := hI
  obtain ⟨u68, hI⟩ := hI
  obtain ⟨u69, hI⟩ := hI
  obtain ⟨u70, hI⟩ := hI
  obtain ⟨u71, hI⟩ := hI
  obtain ⟨u72, hI⟩ := hI
  obtain ⟨u73, hI⟩ := hI
  obtain ⟨u74, hI⟩ := hI
  obtain ⟨u75, hI⟩ := hI
  obtain ⟨u76, hI⟩ := hI
  obtain ⟨u77, hI⟩ := hI
  obtain ⟨u78, hI⟩ := hI
  obtain ⟨u79, hI⟩ := hI
  obtain ⟨u80, hI⟩ := hI
  obtain ⟨u81, hI⟩ := hI
  obtain ⟨u82, hI⟩ := hI
  obtain ⟨u83, hI⟩ := hI
  obtain ⟨u84, hI⟩ := hI
  obtain ⟨u85, hI⟩ := hI
  obtain ⟨u86, hI⟩ := hI
  obtain ⟨u87, hI⟩ := hI
  obtain ⟨u88, hI⟩ := hI
  obtain ⟨u89, hI⟩ := hI
  obtain ⟨u90, hI⟩ := hI
  obtain ⟨u91, hI⟩ := hI
  obtain ⟨u92, hI⟩ := hI
  obtain ⟨u93, hI⟩ := hI
  obtain ⟨u94, hI⟩ := hI
  obtain ⟨u95, hI⟩ := hI
  obtain ⟨u96, hI⟩ := hI
  obtain ⟨u97, hI⟩ := hI
  obtain ⟨ha, hk, hnone, I⟩ := hI
  subst ha
  dsimp only
  by_cases hlt : k < l0.length
  ·have hL := spansOk_get (errB_zero E1.out).2.2.2.2.2.2.2 k hlt
   obtain ⟨ad, rfl, hx0⟩ := Kd.at_int hr0 (k : Int) (by omega) (by omega)
   rw [rd_get l0 k hlt, Int.toNat_natCast] at hx0
   obtain ⟨ad1, rfl, hm0⟩ := Kd.at_int hr1 (k : Int) (by omega) (by have := HLn.out; omega)
   obtain ⟨ad2, rfl, hs0⟩ := Kd.at_int hr2 (k : Int) (by omega) (by have := HLn.out; omega)
   rw [Int.toNat_natCast] at hm0 hs0
   have HM0 := Aside0.mk hm0
   have HS0 := Aside0.mk hs0
   clear hm0 hs0
   have hIs := I.size
   have HL := Aside0.mk hL
   clear hL
   replace hx0 := ((hB ▸ I.below : Below w.heap.size w W).cell (World.block_lt_of_cell? w _ hx0)).trans hx0
   obtain ⟨W1, hW1⟩ : ∃ W1, (W.alloc (.cells #[.int .i64 (k : Int)] 3 (0, 0))).alloc (.cells #[.int .i64 l0[k]] 2 (0, 0)) = W1 := ⟨_, rfl⟩
   have hb1 : Below W.heap.size W W1 := by rw [← hW1]; exact ((Below.refl _ _).alloc (Nat.le_refl _) _).alloc (by simp) _
   have I1 := I.step hb1 (Nat.le_refl _)
   have k1 : W1.heap[W.heap.size]? = some (.cells #[.int .i64 (k : Int)] 3 (0, 0)) := by rw [← hW1]; exact blk_alloc (blk_new _ _) _
   have k2 : W1.heap[W.heap.size + 1]? = some (.cells #[.int .i64 l0[k]] 2 (0, 0)) := by
    rw [← hW1]; have := blk_new (W.alloc (.cells #[.int .i64 (k : Int)] 3 (0, 0))) (.cells #[.int .i64 l0[k]] 2 (0, 0)); rwa [World.size_alloc] at this
   obtain ⟨b0, b1, b2, b3, b4, b5⟩ := cells6 I1.hb
   have ck : W1.cell? ⟨W.heap.size, 0, none⟩ = some (.int .i64 (k : Int)) := (blk_cell k1 0).trans rfl
   gi_wp2
   refine ⟨trivial, rfl, (checked_make _ _ _ _ _ _ _ _ _ _ _).mono ?_⟩
   rintro e W2 ⟨rfl, hW2⟩
   have hb2 : Below W1.heap.size W1 W2 := by rw [hW2]; exact (((Below.refl _ _).alloc (Nat.le_refl _) _).alloc (by simp) _).alloc (by simp; omega) _
   have s1 : W1.heap.size = W.heap.size + 2 := by rw [← hW1]; simp
   have s2 : W2.heap.size = W.heap.size + 5 := by rw [hW2]; simp; omega
   have p1 : W2.heap[W1.heap.size]? = some (.cells #[.slice (some ad) l0.length c0, .slice (some ad1) l1.length c1, .slice (some ad2) l2.length c2, .int .i64 a3, .int .i64 a4, .int .i64 a5] 24 (0, 0)) := by rw [hW2]; exact blk_alloc (blk_alloc (blk_new _ _) _) _
   have p2 : W2.heap[W1.heap.size + 1]? = some (.cells #[.slice At t.length ct] 25 (0, 0)) := by
    rw [hW2]; refine blk_alloc ?_ _; have := blk_new (W1.alloc (.cells #[.slice (some ad) l0.length c0, .slice (some ad1) l1.length c1, .slice (some ad2) l2.length c2, .int .i64 a3, .int .i64 a4, .int .i64 a5] 24 (0, 0))) (.cells #[.slice At t.length ct] 25 (0, 0)); rwa [World.size_alloc] at this
   have p3 : W2.heap[W1.heap.size + 1 + 1]? = some (.cells #[.int .i64 (k : Int)] 3 (0, 0)) := by
    rw [hW2]; have := blk_new ((W1.alloc (.cells #[.slice (some ad) l0.length c0, .slice (some ad1) l1.length c1, .slice (some ad2) l2.length c2, .int .i64 a3, .int .i64 a4, .int .i64 a5] 24 (0, 0))).alloc (.cells #[.slice At t.length ct] 25 (0, 0))) (.cells #[.int .i64 (k : Int)] 3 (0, 0)); rwa [World.size_alloc, World.size_alloc] at this
   have I2 := I1.step hb2 (by omega)
   have k1' := keep_below hb2 (by omega) k1
   have k2' := keep_below hb2 (by omega) k2
   have hbw2 : Below w.heap.size w W2 := hB ▸ I2.below
   clear b0 b1 b2 b3 b4 b5 ck hx0 hW1 hW2
   rw [s1] at p1 p2 p3
   rw [s1]
   have hs2a : W.heap.size + 5 ≤ W2.heap.size := by omega
   clear s1 s2
   gi_wp2
   refine wpIn_rangeFunc_P (gf := 85) (lb := #[.pointer (some ⟨W.heap.size + 2, 0, none⟩), .pointer (some ⟨W.heap.size + 2 + 1 + 1, 0, none⟩), .pointer (some ⟨W.heap.size + 2 + 1, 0, none⟩)]) rfl (enters_of Try.func85 (by kernel_rfl) rfl) (encs := effV) (L := checkedL l0 t k l0[k]) (T := fun _ => False) (T2 := fun q => q = B + 1 ∨ q = B + 1 + 1) (w0 := W2)
    (checked_seqp _ (W.heap.size + 2) (W.heap.size + 2 + 1 + 1) (W.heap.size + 2 + 1) c0 c1 c2 ct (some ad) (some ad1) (some ad2) At l0 l1 l2 a3 a4 a5 k t W2 hlt (by have := HLn.out; omega) (by have := (errT_zero E2.out).2.1; omega) (by have := HL.out; omega) p1 p3 p2 (Kd.C_below hr0 hbw2) hc0 (Kd.C_below hr1 hbw2) hc1 (Kd.C_below hr2 hbw2) hc2 (Kd.C_below hrt hbw2))
    (fun _ h => h.elim) (fun q h => by rcases h with h | h <;> omega) (Below.refl _ _) (fun _ => rfl)
    (fun pre V => BInv B w #[.slice (some ad) l0.length c0, .slice (some ad1) l1.length c1, .slice (some ad2) l2.length c2, .int .i64 a3, .int .i64 a4, .int .i64 a5] (restV a4 a5 tr) W.heap.size ds V ∧ V.heap[W.heap.size]? = some (.cells #[.int .i64 (k : Int)] 3 (0, 0)) ∧ V.heap[W.heap.size + 1]? = some (.cells #[.int .i64 l0[k]] 2 (0, 0)) ∧ ∀ x ∈ pre, failM a3 (restV a4 a5 tr) l0[k] (rd l1 (k : Int)) x = false)
    (fun pre V => ∃ x, (checkedL l0 t k l0[k]).find? (failM a3 (restV a4 a5 tr) l0[k] (rd l1 (k : Int))) = some x ∧ BEnd B w W.heap.size ds x V)
    ?hI ?hIx ⟨I2, k1', k2', fun x hx => by simp at hx⟩
    (fun x a' V => ∃ Bx, W2.heap.size ≤ Bx ∧ V.heap[Bx]? = some (.cells (effC x) 29 (0, 0)) ∧ a' = { tmps := (.agg #[.slice (some ad) l0.length c0, .slice (some ad1) l1.length c1, .slice (some ad2) l2.length c2, .int .i64 a3, .int .i64 a4, .int .i64 a5] :: .slice At t.length ct :: .bool tr :: .pointer (some ⟨B, 0, none⟩) :: undef :: undef :: .pointer (some ⟨B + 1, 0, none⟩) :: .pointer (some ⟨B + 1 + 1, 0, none⟩) :: .pointer (some ⟨B + 1 + 1 + 1, 0, none⟩) :: .pointer (some ⟨W.heap.size, 0, none⟩) :: .pointer (some ⟨W.heap.size + 1, 0, none⟩) :: .pointer (some ⟨Bx, 0, none⟩) :: u12 :: u13 :: u14 :: .bool tr :: u16 :: u17 :: u18 :: u19 :: u20 :: u21 :: .pointer (some ⟨B, 0, none⟩) :: .slice (some ad) l0.length c0 :: .int .i64 (l0.length : Int) :: .int .i64 (k : Int) :: .bool true :: .int .i64 (k : Int) :: .pointer (some (ad.add k)) :: .int .i64 l0[k] :: .agg #[.slice (some ad) l0.length c0, .slice (some ad1) l1.length c1, .slice (some ad2) l2.length c2, .int .i64 a3, .int .i64 a4, .int .i64 a5] :: .slice At t.length ct :: .int .i64 (k : Int) :: .func (.func 85) #[] #[.pointer (some ⟨W.heap.size + 2, 0, none⟩), .pointer (some ⟨W.heap.size + 2 + 1 + 1, 0, none⟩), .pointer (some ⟨W.heap.size + 2 + 1, 0, none⟩)] :: .agg #[.int .i64 x.f0, .int .i64 x.f1, .int .i64 x.f2, .int .i64 x.f3] :: u35 :: u36 :: u37 :: u38 :: u39 :: u40 :: u41 :: u42 :: u43 :: u44 :: u45 :: u46 :: u47 :: u48 :: u49 :: u50 :: u51 :: u52 :: u53 :: u54 :: u55 :: u56 :: u57 :: u58 :: u59 :: u60 :: u61 :: u62 :: u63 :: u64 :: u65 :: u66 :: u67 :: u68 :: u69 :: u70 :: u71 :: u72 :: u73 :: u74 :: u75 :: u76 :: u77 :: u78 :: u79 :: u80 :: u81 :: u82 :: u83 :: u84 :: u85 :: u86 :: u87 :: u88 :: u89 :: u90 :: u91 :: u92 :: u93 :: u94 :: u95 :: u96 :: u97 :: u98 :: []).toArray, defers := [] })
    ?hAx ?assign ?body ?done ?stop
   case hI =>
    rintro s A V ⟨g1, g2, g3, g4⟩ hb
    exact ⟨g1.step hb (by omega), keep_below hb (by omega) g2, keep_below hb (by omega) g3, g4⟩
   case hIx =>
    rintro s A V ⟨x, g1, g2⟩ hb
    exact ⟨x, g1, g2.step hb (by omega)⟩
   case hAx =>
    rintro x a' V r o ⟨Bx, hBx, hx, rfl⟩ hr
    exact ⟨Bx, hBx, (World.putObj_heap_other (fun e => by subst e; rw [hx] at hr; cases hr)).trans hx, rfl⟩
   case assign =>
    rintro l' pre x V K ⟨g1, g2, g3, g4⟩ hpre hz hK
    dsimp only [effV]
    gi_wp2
    exact hK _ _ ((Below.refl _ _).alloc (Nat.le_refl _) _) ⟨V.heap.size, hz, blk_new _ _, rfl⟩
   case body =>
    rintro l' pre x a' V ⟨g1, g2, g3, g4⟩ hpre hz ⟨Bx, hBx, hx, rfl⟩
    have hmem : x ∈ checkedL l0 t k l0[k] := hpre.subset (by simp)
    have hLo := HL.out
    obtain ⟨n, hn, hxe⟩ : ∃ n : Nat, n < 15 ∧ momentWorst l0 t k l0[k] (l0[k] * ((n + 1 : Nat) : Int) / 16) = x := by
     simp only [checkedL, List.mem_map, List.mem_range] at hmem
     exact hmem
    have hpt : 0 ≤ l0[k] * ((n + 1 : Nat) : Int) / 16 ∧ l0[k] * ((n + 1 : Nat) : Int) / 16 ≤ l0[k] := by
     have z1 : 0 ≤ l0[k] * ((n + 1 : Nat) : Int) := Int.mul_nonneg (by omega) (by omega)
     have z2 : l0[k] * ((n + 1 : Nat) : Int) ≤ l0[k] * 16 := Int.mul_le_mul_of_nonneg_left (by omega) (by omega)
     omega
    obtain ⟨pl, _, hme⟩ := momentWorst_bd (k := k) (x := l0[k] * ((n + 1 : Nat) : Int) / 16) E1.out E2.out (show 0 ≤ l0[k] ∧ l0[k] ≤ 131072 by omega) hpt
    rw [hxe] at hme
    have v60 := effS_le60 (f := fun y => momentI l0[k] (l0[k] * ((n + 1 : Nat) : Int) / 16) (y - startW l0 k)) (s := pl) (fun a => momentI_bd (by omega) hpt _) E2.out
    have hf0 : 0 ≤ x.f0 ∧ x.f0 ≤ 1152921504606846976 := by rw [hme]; exact v60
    have hf2 : 0 ≤ x.f2 ∧ x.f2 ≤ l0[k] := by rw [hme]; exact hpt
    have hrest := restV_bd E1.out tr
    have hdyn := (errB_zero E1.out).2.2.2.2.1
    have hsp := (errB_zero E1.out).2.2.2.2.2.2.2
    have hMb : 1 ≤ rd l1 (k : Int) ∧ rd l1 (k : Int) ≤ 1073741824 := (spansOk_ms hsp k hlt).1
    clear v60 hme hxe hpt hn hsp hmem
    obtain ⟨x0, x1, x2, x3⟩ := x
    simp only at hf0 hf2
    obtain ⟨fs1, fs2, fs3⟩ := share_fit hdyn hf0 hLo
    have mp0 : 0 ≤ restV a4 a5 tr * x2 := Int.mul_nonneg hrest.1 hf2.1
    have mp1 : restV a4 a5 tr * x2 ≤ 12288 * 131072 := Int.mul_le_mul hrest.2 (by omega) hf2.1 (by decide)
    have mq0 : 0 ≤ restV a4 a5 tr * x2 * (l0[k] - x2) := Int.mul_nonneg mp0 (by omega)
    have mq1 : restV a4 a5 tr * x2 * (l0[k] - x2) ≤ 12288 * 131072 * 131072 := Int.mul_le_mul mp1 (by omega) (by omega) (by decide)
    have fu := up_eq (n := restV a4 a5 tr * x2 * (l0[k] - x2)) (d := 2000) mq0 (by omega) (by decide) (by decide)
    have fu1 := upI_nonneg (n := restV a4 a5 tr * x2 * (l0[k] - x2)) (d := 2000) mq0 (by decide)
    have fu2 := upI_le (n := restV a4 a5 tr * x2 * (l0[k] - x2)) (d := 2000) mq0 (by decide)
    have hfail : failM a3 (restV a4 a5 tr) l0[k] (rd l1 (k : Int)) ⟨x0, x1, x2, x3⟩ = decide (shareZ (1000 + a3) x0 (1000 * l0[k]) + upI (restV a4 a5 tr * x2 * (l0[k] - x2)) 2000 > 1000 * rd l1 (k : Int)) := rfl
    obtain ⟨rs, hrs⟩ : ∃ r, restV a4 a5 tr = r := ⟨_, rfl⟩
    obtain ⟨L, hLk⟩ : ∃ L, l0[k] = L := ⟨_, rfl⟩
    obtain ⟨M, hMk⟩ : ∃ M, rd l1 (k : Int) = M := ⟨_, rfl⟩
    rw [hrs] at fu fu1 fu2 hfail mq0 mq1 mp0 mp1
    rw [hLk] at fu fu1 fu2 hfail mq0 mq1
    rw [hLk] at fs1 fs2 fs3 hf2 hLo
    rw [hMk] at hfail hMb
    obtain ⟨S, hS⟩ : ∃ S, shareZ (1000 + a3) x0 (1000 * L) = S := ⟨_, rfl⟩
    obtain ⟨U, hU⟩ : ∃ U, upI (rs * x2 * (L - x2)) 2000 = U := ⟨_, rfl⟩
    rw [hS] at fs1 fs2 fs3 hfail
    rw [hU] at fu fu1 fu2 hfail
    rw [hrs] at hrest
    have FS := Aside0.mk fs1
    have FU := Aside0.mk fu
    have FF := Aside0.mk hfail
    have G1 := Aside0.mk g1
    have RS := Aside0.mk hrs
    have LK := Aside0.mk hLk
    have MK := Aside0.mk hMk
    -- the cells
    obtain ⟨b0, b1, b2, b3, b4, b5⟩ := cells6 g1.hb
    have ck : V.cell? ⟨W.heap.size, 0, none⟩ = some (.int .i64 (k : Int)) := (blk_cell g2 0).trans rfl
    have cL : V.cell? ⟨W.heap.size + 1, 0, none⟩ = some (.int .i64 L) := by rw [← hLk]; exact (blk_cell g3 0).trans rfl
    have cr : V.cell? ⟨B + 1 + 1 + 1, 0, none⟩ = some (.int .i64 rs) := by rw [← hrs]; exact (blk_cell g1.hr 0).trans rfl
    have cM := ((hB ▸ g1.below : Below w.heap.size w V).cell (World.block_lt_of_cell? w _ HM0.out)).trans HM0.out
    rw [hMk] at cM
    obtain ⟨⟨y0, y1, y2, y3⟩, _⟩ := cells4 hx
    have w1 : IntKind.i64.wrap (1000 + a3) = 1000 + a3 := by rw [i64_w]; exact w64 (by omega) (by omega)
    have w2 : IntKind.i64.wrap (1000 * L) = 1000 * L := by rw [i64_w]; exact w64 (by omega) (by omega)
    have w3 : IntKind.i64.wrap (rs * x2) = rs * x2 := by rw [i64_w]; exact w64 (by omega) (by omega)
    have w4 : IntKind.i64.wrap (L - x2) = L - x2 := by rw [i64_w]; exact w64 (by omega) (by omega)
    have w5 : IntKind.i64.wrap (rs * x2 * (L - x2)) = rs * x2 * (L - x2) := by rw [i64_w]; exact w64 (by omega) (by omega)
    have w6 : IntKind.i64.wrap (S + U) = S + U := by rw [i64_w]; exact w64 (by omega) (by omega)
    have w7 : IntKind.i64.wrap (1000 * M) = 1000 * M := by rw [i64_w]; exact w64 (by omega) (by omega)
    have KX := Aside0.mk hx
    have G2 := Aside0.mk g2
    have G3 := Aside0.mk g3
    have G4 := Aside0.mk g4
    have HP := Aside0.mk hpre
    clear g1 g2 g3 g4 hpre hx hrs hLk hMk fs1 fs2 fs3 fu fu1 fu2 hfail mp0 mp1 mq0 mq1 hS hU hf0 hf2 hLo hrest hMb hdyn
    have hkl : k < l1.length := by have := HLn.out; omega
    dsimp only [effC]
    gi_wp2
    refine wpIn_region_any (by kernel_rfl) ?_
    change wpAnyIn _ _ _ _ _ _ _ _ _ (World.drew V)
    refine wpAnyIn_inv (fun listed a V' => a = { tmps := (.agg #[.slice (some ad) l0.length c0, .slice (some ad1) l1.length c1, .slice (some ad2) l2.length c2, .int .i64 a3, .int .i64 a4, .int .i64 a5] :: .slice At t.length ct :: .bool tr :: .pointer (some ⟨B, 0, none⟩) :: undef :: undef :: .pointer (some ⟨B + 1, 0, none⟩) :: .pointer (some ⟨B + 1 + 1, 0, none⟩) :: .pointer (some ⟨B + 1 + 1 + 1, 0, none⟩) :: .pointer (some ⟨W.heap.size, 0, none⟩) :: .pointer (some ⟨W.heap.size + 1, 0, none⟩) :: .pointer (some ⟨Bx, 0, none⟩) :: u12 :: u13 :: u14 :: .bool tr :: u16 :: u17 :: u18 :: u19 :: u20 :: u21 :: .pointer (some ⟨B, 0, none⟩) :: .slice (some ad) l0.length c0 :: .int .i64 (l0.length : Int) :: .int .i64 (k : Int) :: .bool true :: .int .i64 (k : Int) :: .pointer (some (ad.add k)) :: .int .i64 l0[k] :: .agg #[.slice (some ad) l0.length c0, .slice (some ad1) l1.length c1, .slice (some ad2) l2.length c2, .int .i64 a3, .int .i64 a4, .int .i64 a5] :: .slice At t.length ct :: .int .i64 (k : Int) :: .func (.func 85) #[] #[.pointer (some ⟨W.heap.size + 2, 0, none⟩), .pointer (some ⟨W.heap.size + 2 + 1 + 1, 0, none⟩), .pointer (some ⟨W.heap.size + 2 + 1, 0, none⟩)] :: .agg #[.int .i64 x0, .int .i64 x1, .int .i64 x2, .int .i64 x3] :: selOr listed 0 (.pointer (some ⟨B, 3, none⟩)) u35 :: selOr listed 1 (.int .i64 a3) u36 :: selOr listed 2 (.int .i64 (1000 + a3)) u37 :: selOr listed 3 (.pointer (some ⟨Bx, 0, none⟩)) u38 :: selOr listed 4 (.int .i64 x0) u39 :: selOr listed 5 (.int .i64 L) u40 :: selOr listed 6 (.int .i64 (1000 * L)) u41 :: selOr listed 7 (.int .i64 S) u42 :: selOr listed 8 (.int .i64 rs) u43 :: selOr listed 9 (.pointer (some ⟨Bx, 2, none⟩)) u44 :: selOr listed 10 (.int .i64 x2) u45 :: selOr listed 11 (.int .i64 (rs * x2)) u46 :: selOr listed 12 (.int .i64 L) u47 :: selOr listed 13 (.pointer (some ⟨Bx, 2, none⟩)) u48 :: selOr listed 14 (.int .i64 x2) u49 :: selOr listed 15 (.int .i64 (L - x2)) u50 :: selOr listed 16 (.int .i64 (rs * x2 * (L - x2))) u51 :: selOr listed 17 (.int .i64 U) u52 :: selOr listed 18 (.int .i64 (S + U)) u53 :: selOr listed 19 (.pointer (some ⟨B, 1, none⟩)) u54 :: selOr listed 20 (.slice (some ad1) l1.length c1) u55 :: selOr listed 21 (.int .i64 (k : Int)) u56 :: selOr listed 22 (.pointer (some (ad1.add k))) u57 :: selOr listed 23 (.int .i64 M) u58 :: selOr listed 24 (.int .i64 (1000 * M)) u59 :: selOr listed 25 (.bool (decide (1000 * M < S + U))) u60 :: u61 :: u62 :: u63 :: u64 :: u65 :: u66 :: u67 :: u68 :: u69 :: u70 :: u71 :: u72 :: u73 :: u74 :: u75 :: u76 :: u77 :: u78 :: u79 :: u80 :: u81 :: u82 :: u83 :: u84 :: u85 :: u86 :: u87 :: u88 :: u89 :: u90 :: u91 :: u92 :: u93 :: u94 :: u95 :: u96 :: u97 :: u98 :: []).toArray, defers := [] } ∧ ∃ m, V' = World.drewN V m)
     33 ?stepq ?stopq ?finq 26 _ _ _ (by simp) (closed_none _) ⟨by simp [selOr], 1, rfl⟩ (by simp)
    case stopq =>
     intro listed a V' fuel hs hc hi hr
     have := (ready_lt hr).1
     simp at hs
     omega
    case stepq =>
     rintro listed a V' i hs hc ⟨rfl, m, rfl⟩ hr hne K hK
     obtain ⟨hlt', hl0⟩ := ready_lt hr
     have hi : i = 0 ∨ i = 1 ∨ i = 2 ∨ i = 3 ∨ i = 4 ∨ i = 5 ∨ i = 6 ∨ i = 7 ∨ i = 8 ∨ i = 9 ∨ i = 10 ∨ i = 11 ∨ i = 12 ∨ i = 13 ∨ i = 14 ∨ i = 15 ∨ i = 16 ∨ i = 17 ∨ i = 18 ∨ i = 19 ∨ i = 20 ∨ i = 21 ∨ i = 22 ∨ i = 23 ∨ i = 24 ∨ i = 25 := by simp at hs; omega
     rcases hi with rfl | rfl | rfl | rfl | rfl | rfl | rfl | rfl | rfl | rfl | rfl | rfl | rfl | rfl | rfl | rfl | rfl | rfl | rfl | rfl | rfl | rfl | rfl | rfl | rfl | rfl
     ·refine wpOpIn_of rfl rfl ?_
      clear hr hl0
      gi_wp2
      refine ⟨?_, m, rfl⟩
      simp (disch := decide) only [selOr_same hlt', selOr_other hlt']
     ·refine wpOpIn_of rfl rfl ?_
      have d0 : listed.getD 0 false = true := ready_after hr rfl { on := 0, ground := .data } (by simp) rfl
      simp only [selOr_on d0]
      clear hr hl0
      gi_wp2
      refine ⟨?_, m, rfl⟩
      simp (disch := decide) only [selOr_same hlt', selOr_other hlt', selOr_on d0]
     ·refine wpOpIn_of rfl rfl ?_
      have d1 : listed.getD 1 false = true := ready_after hr rfl { on := 1, ground := .data } (by simp) rfl
      simp only [selOr_on d1]
      clear hr hl0
      gi_wp2
      refine ⟨?_, m, rfl⟩
      simp (disch := decide) only [selOr_same hlt', selOr_other hlt', selOr_on d1]
     ·refine wpOpIn_of rfl rfl ?_
      clear hr hl0
      gi_wp2
      refine ⟨?_, m, rfl⟩
      simp (disch := decide) only [selOr_same hlt', selOr_other hlt']
     ·refine wpOpIn_of rfl rfl ?_
      have d3 : listed.getD 3 false = true := ready_after hr rfl { on := 3, ground := .data } (by simp) rfl
      simp only [selOr_on d3]
      clear hr hl0
      gi_wp2
      refine ⟨?_, m, rfl⟩
      simp (disch := decide) only [selOr_same hlt', selOr_other hlt', selOr_on d3]
     ·refine wpOpIn_of rfl rfl ?_
      clear hr hl0
      gi_wp2
      refine ⟨?_, m, rfl⟩
      simp (disch := decide) only [selOr_same hlt', selOr_other hlt']
     ·refine wpOpIn_of rfl rfl ?_
      have d5 : listed.getD 5 false = true := ready_after hr rfl { on := 5, ground := .data } (by simp) rfl
      simp only [selOr_on d5]
      clear hr hl0
      gi_wp2
      refine ⟨?_, m, rfl⟩
      simp (disch := decide) only [selOr_same hlt', selOr_other hlt', selOr_on d5]
     ·refine wpOpIn_of rfl rfl ?_
      have d2 : listed.getD 2 false = true := ready_after hr rfl { on := 2, ground := .data } (by simp) rfl
      have d4 : listed.getD 4 false = true := ready_after hr rfl { on := 4, ground := .data } (by simp) rfl
      have d6 : listed.getD 6 false = true := ready_after hr rfl { on := 6, ground := .data } (by simp) rfl
      simp only [selOr_on d2, selOr_on d4, selOr_on d6]
      clear hr hl0
      gi_wp2
      refine ⟨trivial, rfl, (CallsIn.inRound l' (callsIn_w (bridge_share.calls _ _ _ _ _ FS.out))).mono ?_⟩
      rintro e V5 ⟨rfl, ⟨nd, rfl⟩⟩
      gi_wp2
      refine ⟨?_, m + nd, rfl⟩
      simp (disch := decide) only [selOr_same hlt', selOr_other hlt', selOr_on d2, selOr_on d4, selOr_on d6]
     ·refine wpOpIn_of rfl rfl ?_
      clear hr hl0
      gi_wp2
      refine ⟨?_, m, rfl⟩
      simp (disch := decide) only [selOr_same hlt', selOr_other hlt']
     ·refine wpOpIn_of rfl rfl ?_
      clear hr hl0
      gi_wp2
      refine ⟨?_, m, rfl⟩
      simp (disch := decide) only [selOr_same hlt', selOr_other hlt']
     ·refine wpOpIn_of rfl rfl ?_
      have d9 : listed.getD 9 false = true := ready_after hr rfl { on := 9, ground := .data } (by simp) rfl
      simp only [selOr_on d9]
      clear hr hl0
      gi_wp2
      refine ⟨?_, m, rfl⟩
      simp (disch := decide) only [selOr_same hlt', selOr_other hlt', selOr_on d9]
     ·refine wpOpIn_of rfl rfl ?_
      have d8 : listed.getD 8 false = true := ready_after hr rfl { on := 8, ground := .data } (by simp) rfl
      have d10 : listed.getD 10 false = true := ready_after hr rfl { on := 10, ground := .data } (by simp) rfl
      simp only [selOr_on d8, selOr_on d10]
      clear hr hl0
      gi_wp2
      refine ⟨?_, m, rfl⟩
      simp (disch := decide) only [selOr_same hlt', selOr_other hlt', selOr_on d8, selOr_on d10]
     ·refine wpOpIn_of rfl rfl ?_
      clear hr hl0
      gi_wp2
      refine ⟨?_, m, rfl⟩
      simp (disch := decide) only [selOr_same hlt', selOr_other hlt']
     ·refine wpOpIn_of rfl rfl ?_
      clear hr hl0
      gi_wp2
      refine ⟨?_, m, rfl⟩
      simp (disch := decide) only [selOr_same hlt', selOr_other hlt']
     ·refine wpOpIn_of rfl rfl ?_
      have d13 : listed.getD 13 false = true := ready_after hr rfl { on := 13, ground := .data } (by simp) rfl
      simp only [selOr_on d13]
      clear hr hl0
      gi_wp2
      refine ⟨?_, m, rfl⟩
      simp (disch := decide) only [selOr_same hlt', selOr_other hlt', selOr_on d13]
     ·refine wpOpIn_of rfl rfl ?_
      have d12 : listed.getD 12 false = true := ready_after hr rfl { on := 12, ground := .data } (by simp) rfl
      have d14 : listed.getD 14 false = true := ready_after hr rfl { on := 14, ground := .data } (by simp) rfl
      simp only [selOr_on d12, selOr_on d14]
      clear hr hl0
      gi_wp2
      refine ⟨?_, m, rfl⟩
      simp (disch := decide) only [selOr_same hlt', selOr_other hlt', selOr_on d12, selOr_on d14]
     ·refine wpOpIn_of rfl rfl ?_
      have d11 : listed.getD 11 false = true := ready_after hr rfl { on := 11, ground := .data } (by simp) rfl
      have d15 : listed.getD 15 false = true := ready_after hr rfl { on := 15, ground := .data } (by simp) rfl
      simp only [selOr_on d11, selOr_on d15]
      clear hr hl0
      gi_wp2
      refine ⟨?_, m, rfl⟩
      simp (disch := decide) only [selOr_same hlt', selOr_other hlt', selOr_on d11, selOr_on d15]
     ·refine wpOpIn_of rfl rfl ?_
      have d16 : listed.getD 16 false = true := ready_after hr rfl { on := 16, ground := .data } (by simp) rfl
      simp only [selOr_on d16]
      clear hr hl0
      gi_wp2
      refine ⟨trivial, rfl, (CallsIn.inRound l' (callsIn_w (bridge_up.calls _ _ _ _ FU.out))).mono ?_⟩
      rintro e V5 ⟨rfl, ⟨nd, rfl⟩⟩
      gi_wp2
      refine ⟨?_, m + nd, rfl⟩
      simp (disch := decide) only [selOr_same hlt', selOr_other hlt', selOr_on d16]
     ·refine wpOpIn_of rfl rfl ?_
      have d7 : listed.getD 7 false = true := ready_after hr rfl { on := 7, ground := .data } (by simp) rfl
      have d17 : listed.getD 17 false = true := ready_after hr rfl { on := 17, ground := .data } (by simp) rfl
      simp only [selOr_on d7, selOr_on d17]
      clear hr hl0
      gi_wp2
      refine ⟨?_, m, rfl⟩
      simp (disch := decide) only [selOr_same hlt', selOr_other hlt', selOr_on d7, selOr_on d17]
     ·refine wpOpIn_of rfl rfl ?_
      clear hr hl0
      gi_wp2
      refine ⟨?_, m, rfl⟩
      simp (disch := decide) only [selOr_same hlt', selOr_other hlt']
     ·refine wpOpIn_of rfl rfl ?_
      have d19 : listed.getD 19 false = true := ready_after hr rfl { on := 19, ground := .data } (by simp) rfl
      simp only [selOr_on d19]
      clear hr hl0
      gi_wp2
      refine ⟨?_, m, rfl⟩
      simp (disch := decide) only [selOr_same hlt', selOr_other hlt', selOr_on d19]
     ·refine wpOpIn_of rfl rfl ?_
      clear hr hl0
      gi_wp2
      refine ⟨?_, m, rfl⟩
      simp (disch := decide) only [selOr_same hlt', selOr_other hlt']
     ·refine wpOpIn_of rfl rfl ?_
      have d20 : listed.getD 20 false = true := ready_after hr rfl { on := 20, ground := .data } (by simp) rfl
      have d21 : listed.getD 21 false = true := ready_after hr rfl { on := 21, ground := .data } (by simp) rfl
      simp only [selOr_on d20, selOr_on d21]
      clear hr hl0
      gi_wp2
      refine ⟨?_, m, rfl⟩
      simp (disch := decide) only [selOr_same hlt', selOr_other hlt', selOr_on d20, selOr_on d21]
     ·refine wpOpIn_of rfl rfl ?_
      have d22 : listed.getD 22 false = true := ready_after hr rfl { on := 22, ground := .data } (by simp) rfl
      simp only [selOr_on d22]
      clear hr hl0
      gi_wp2
      refine ⟨?_, m, rfl⟩
      simp (disch := decide) only [selOr_same hlt', selOr_other hlt', selOr_on d22]
     ·refine wpOpIn_of rfl rfl ?_
      have d23 : listed.getD 23 false = true := ready_after hr rfl { on := 23, ground := .data } (by simp) rfl
      simp only [selOr_on d23]
      clear hr hl0
      gi_wp2
      refine ⟨?_, m, rfl⟩
      simp (disch := decide) only [selOr_same hlt', selOr_other hlt', selOr_on d23]
     ·refine wpOpIn_of rfl rfl ?_
      have d18 : listed.getD 18 false = true := ready_after hr rfl { on := 18, ground := .data } (by simp) rfl
      have d24 : listed.getD 24 false = true := ready_after hr rfl { on := 24, ground := .data } (by simp) rfl
      simp only [selOr_on d18, selOr_on d24]
      clear hr hl0
      gi_wp2
      refine ⟨?_, m, rfl⟩
      simp (disch := decide) only [selOr_same hlt', selOr_other hlt', selOr_on d18, selOr_on d24]
    case finq =>
     rintro listed a V' hs ⟨rfl, m, rfl⟩ hr
     have all : ∀ j, j < 26 → listed.getD j false = true := fun j hj => by
      cases q : listed.getD j false
      ·exact absurd hr (ready_ne hs (by kernel_rfl) j (by simpa using hj) q)
      ·rfl
     simp only [selOr_on (all 0 (by decide)), selOr_on (all 1 (by decide)), selOr_on (all 2 (by decide)), selOr_on (all 3 (by decide)), selOr_on (all 4 (by decide)), selOr_on (all 5 (by decide)), selOr_on (all 6 (by decide)), selOr_on (all 7 (by decide)), selOr_on (all 8 (by decide)), selOr_on (all 9 (by decide)), selOr_on (all 10 (by decide)), selOr_on (all 11 (by decide)), selOr_on (all 12 (by decide)), selOr_on (all 13 (by decide)), selOr_on (all 14 (by decide)), selOr_on (all 15 (by decide)), selOr_on (all 16 (by decide)), selOr_on (all 17 (by decide)), selOr_on (all 18 (by decide)), selOr_on (all 19 (by decide)), selOr_on (all 20 (by decide)), selOr_on (all 21 (by decide)), selOr_on (all 22 (by decide)), selOr_on (all 23 (by decide)), selOr_on (all 24 (by decide)), selOr_on (all 25 (by decide))]
     clear all hr hs
     clear b0 b1 b2 b3 b4 b5 ck cL cr cM w1 w2 w3 w4 w5 w6 w7 y0 y1 y2 y3
     have hbm : Below V.heap.size V (World.drewN V m) := pw_below_drewN (Below.refl _ _) m
     obtain ⟨V2, hV2⟩ : ∃ V2, World.drewN V m = V2 := ⟨_, rfl⟩
     rw [hV2] at hbm ⊢
     clear hV2
     have hzV := G1.out.size
     have J1 := G1.out.step hbm (by omega)
     have hVz := hbm.size
     have HBM := Aside0.mk hbm
     have HVZ := Aside0.mk hVz
     clear hbm hzV hVz
     by_cases hd : 1000 * M < S + U
     ·have d1 : decide (1000 * M < S + U) = true := decide_eq_true hd
      have hfl := FF.out
      rw [decide_eq_true (show S + U > 1000 * M from hd)] at hfl
      rw [← RS.out, ← LK.out, ← MK.out] at hfl
      have HF2 := Aside0.mk hfl
      rw [d1]
      clear hd hfl
      obtain ⟨⟨o0, o1, o2, o3⟩, f0, f1, f2, f3⟩ := cells4 J1.he
      obtain ⟨⟨y0, y1, y2, y3⟩, _⟩ := cells4 (keep_below HBM.out (blk_lt KX.out) KX.out)
      have fb := blk_frozen J1.hf 0
      have cb : V2.cell? ⟨B + 1 + 1, 0, none⟩ = some (.bool false) := (blk_cell J1.hf 0).trans rfl
      gi_wp2
      dsimp only [postP]
      have HE := bear_store x0 x1 x2 x3 (T := Tor (fun q => q = B + 1 ∨ q = B + 1 + 1) W2.heap.size W2.heap.size) J1 HBM.out (.inl (.inl rfl)) (.inl (.inr rfl))
      exact ⟨HE.1, _, find_first HP.out G4.out HF2.out, HE.2⟩
     ·have d1 : decide (1000 * M < S + U) = false := decide_eq_false hd
      have hfl := FF.out
      rw [decide_eq_false (show ¬ S + U > 1000 * M from hd)] at hfl
      rw [← RS.out, ← LK.out, ← MK.out] at hfl
      have HF2 := Aside0.mk hfl
      rw [d1]
      clear hd hfl
      gi_wp2
      dsimp only [postP]
      refine ⟨?_, J1, ?_, ?_, ?_⟩
      ·exact Turns.of_below HBM.out
      ·exact keep_below HBM.out (blk_lt G2.out) G2.out
      ·exact keep_below HBM.out (blk_lt G3.out) G3.out
      ·intro y hy
       rcases List.mem_append.1 hy with g | g
       ·exact G4.out y g
       ·rw [List.mem_singleton.1 g]; exact HF2.out
   case stop =>
    rintro D pre V hD hpre ⟨x, hfx, hE⟩ hK
    have hbv : bearsV l0 l1 l2 a3 a4 a5 t tr = some x := bearsV_at hlt hnone (by unfold spanBad; rw [rd_get l0 k hlt, hfx])
    have hDs : W.heap.size ≤ D := by omega
    have hE4 := hE.size
    have HBV := Aside0.mk hbv
    have HE := Aside0.mk hE
    have HDK := Aside0.mk hK
    clear hbv hE hfx hK
    gi_wp2
    refine leaves_coll (B := B + 4) _ (D + 1) _ (HE.out.coll.push (by omega) hDs HDK.out) fun W' hW' => ?_
    refine ⟨_, results_eb rfl _ _ (B + 1) (effC x) (B + 1 + 1) (.bool true) rfl rfl ((hW'.block _ (by omega)).trans HE.out.he) ((blk_cell ((hW'.block _ (by omega)).trans HE.out.hf) 0).trans rfl) rfl, ?_⟩
    exact ⟨by rw [HBV.out]; rfl, hB ▸ HE.out.below.trans (hW'.mono (by omega))⟩
   case done =>
    rintro D V hD ⟨g1, g2, g3, g4⟩ hK
    have hDV : D < V.heap.size := (Array.getElem?_eq_some_iff.1 hK).1
    have J0 : BInv B w #[.slice (some ad) l0.length c0, .slice (some ad1) l1.length c1, .slice (some ad2) l2.length c2, .int .i64 a3, .int .i64 a4, .int .i64 a5] (restV a4 a5 tr) (D + 1) ({ target := .collected D, args := #[] } :: ds) V := ⟨g1.below, ⟨by have := g1.size; omega, by omega⟩, g1.hb, g1.he, g1.hf, g1.hr, g1.coll.push (by omega) (by omega) hK⟩
    have NF := Aside0.mk (show (checkedL l0 t k l0[k]).find? (failM a3 (restV a4 a5 tr) l0[k] (rd l1 (k : Int))) = none from List.find?_eq_none.2 fun x hx => by rw [g4 x hx]; decide)
    have hDW : W.heap.size + 5 ≤ D := by omega
    clear hK g1 g4 hDV
    gi_wp2
    gi_loopw [63] (fun v V' => ∃ j : Nat, j ≤ 2 ∧ v = .int .i64 (j : Int) ∧ ((1 ≤ j → failE a3 (restV a4 a5 tr) l0[k] (rd l2 (k : Int)) (endWorst l0 t k l0[k] false (-1)) = false) ∧ (2 ≤ j → failE a3 (restV a4 a5 tr) l0[k] (rd l2 (k : Int)) (endWorst l0 t k l0[k] true (-2)) = false)) ∧
     BInv B w #[.slice (some ad) l0.length c0, .slice (some ad1) l1.length c1, .slice (some ad2) l2.length c2, .int .i64 a3, .int .i64 a4, .int .i64 a5] (restV a4 a5 tr) (D + 1) ({ target := .collected D, args := #[] } :: ds) V' ∧ V'.heap[W.heap.size]? = some (.cells #[.int .i64 (k : Int)] 3 (0, 0)) ∧ V'.heap[W.heap.size + 1]? = some (.cells #[.int .i64 l0[k]] 2 (0, 0))) (fun v _ => 2 - (intOf v).toNat)
    case atStart => exact ⟨0, by omega, rfl, ⟨fun h => absurd h (by omega), fun h => absurd h (by omega)⟩, J0, g2, g3⟩
    case round =>
     clear g2 g3 J0
     rename World => V1
     obtain ⟨j, hj, rfl, hok, g1, g2, g3⟩ := hrel
     by_cases hj2 : j < 2
     ·obtain ⟨r, pt, hr, hpt⟩ : ∃ (r : Bool) (pt : Int), ((j = 0 ∧ r = false) ∨ (j = 1 ∧ r = true)) ∧ pt = -1 - (j : Int) := by
       rcases (show j = 0 ∨ j = 1 by omega) with h | h
       ·exact ⟨false, _, .inl ⟨h, rfl⟩, rfl⟩
       ·exact ⟨true, _, .inr ⟨h, rfl⟩, rfl⟩
      have hidx : ∀ w, (Instr.index 107 (.agg #[.bool false, .bool true]) (.int .i64 (j : Int))).run Try.prog w = .ok (.bool r) w := by
       rcases hr with ⟨rfl, rfl⟩ | ⟨rfl, rfl⟩
       ·intro w; kernel_rfl
       ·intro w; kernel_rfl
      have HR := Aside0.mk hr
      have HO := Aside0.mk hok
      have G1 := Aside0.mk g1
      have G2 := Aside0.mk g2
      have G3 := Aside0.mk g3
      have hz1 := g1.size
      have HZ := Aside0.mk hz1
      clear hr hok g1 g2 g3 hz1
      have wpt : IntKind.i64.wrap (-1 - (j : Int)) = pt := by rw [i64_w, hpt]; exact w64 (by omega) (by omega)
      have HPT := Aside0.mk hpt
      clear hpt
      gi_wp2
      obtain ⟨X, hX⟩ : ∃ X, endWorst l0 t k l0[k] r pt = X := ⟨_, rfl⟩
      have HX := Aside0.mk hX
      unfold endWorst at hX
      have HXu := Aside0.mk hX
      clear hX wpt hidx
      refine wpIn_region_any (by kernel_rfl) ?_
      change wpAnyIn _ _ _ _ _ _ _ _ _ (World.drew V1)
      refine wpAnyIn_inv (fun listed a V' => ∃ lb A c B14, a = { tmps := (.agg #[.slice (some ad) l0.length c0, .slice (some ad1) l1.length c1, .slice (some ad2) l2.length c2, .int .i64 a3, .int .i64 a4, .int .i64 a5] :: .slice At t.length ct :: .bool tr :: .pointer (some ⟨B, 0, none⟩) :: undef :: undef :: .pointer (some ⟨B + 1, 0, none⟩) :: .pointer (some ⟨B + 1 + 1, 0, none⟩) :: .pointer (some ⟨B + 1 + 1 + 1, 0, none⟩) :: .pointer (some ⟨W.heap.size, 0, none⟩) :: .pointer (some ⟨W.heap.size + 1, 0, none⟩) :: u11 :: .int .i64 (j : Int) :: .bool r :: selOr listed 9 (.pointer (some ⟨B14, 0, none⟩)) u14 :: .bool tr :: u16 :: u17 :: u18 :: u19 :: u20 :: u21 :: .pointer (some ⟨B, 0, none⟩) :: .slice (some ad) l0.length c0 :: .int .i64 (l0.length : Int) :: .int .i64 (k : Int) :: .bool true :: .int .i64 (k : Int) :: .pointer (some (ad.add k)) :: .int .i64 l0[k] :: .agg #[.slice (some ad) l0.length c0, .slice (some ad1) l1.length c1, .slice (some ad2) l2.length c2, .int .i64 a3, .int .i64 a4, .int .i64 a5] :: .slice At t.length ct :: .int .i64 (k : Int) :: .func (.func 85) #[] #[.pointer (some ⟨W.heap.size + 2, 0, none⟩), .pointer (some ⟨W.heap.size + 2 + 1 + 1, 0, none⟩), .pointer (some ⟨W.heap.size + 2 + 1, 0, none⟩)] :: u34 :: u35 :: u36 :: u37 :: u38 :: u39 :: u40 :: u41 :: u42 :: u43 :: u44 :: u45 :: u46 :: u47 :: u48 :: u49 :: u50 :: u51 :: u52 :: u53 :: u54 :: u55 :: u56 :: u57 :: u58 :: u59 :: u60 :: u61 :: .agg #[.bool false, .bool true] :: .int .i64 (j : Int) :: .bool true :: .int .i64 (j : Int) :: .bool r :: selOr listed 0 (.agg #[.slice (some ad) l0.length c0, .slice (some ad1) l1.length c1, .slice (some ad2) l2.length c2, .int .i64 a3, .int .i64 a4, .int .i64 a5]) u67 :: selOr listed 1 (.int .i64 (k : Int)) u68 :: selOr listed 2 (.bool r) u69 :: selOr listed 3 (.agg #[.func (.func 78) #[] lb, .slice A 2 c]) u70 :: selOr listed 4 (.slice At t.length ct) u71 :: selOr listed 5 (.int .i64 (k : Int)) u72 :: selOr listed 6 (.int .i64 (j : Int)) u73 :: selOr listed 7 (.int .i64 pt) u74 :: selOr listed 8 (.agg #[.int .i64 X.f0, .int .i64 X.f1, .int .i64 X.f2, .int .i64 X.f3]) u75 :: u76 :: u77 :: u78 :: u79 :: u80 :: u81 :: u82 :: u83 :: u84 :: u85 :: u86 :: u87 :: u88 :: u89 :: u90 :: u91 :: u92 :: u93 :: u94 :: u95 :: u96 :: u97 :: u98 :: []).toArray, defers := { target := .collected D, args := #[] } :: ds } ∧ Below V1.heap.size V1 V' ∧ (listed.getD 3 false = true → LineFn 78 lb (endW (startW l0 k) l0[k] r) V' ∧ Kd.C (Kd.int .i64) V' A 2 [startW l0 k, wrap64 (startW l0 k + l0[k])]) ∧ (listed.getD 9 false = true → V1.heap.size ≤ B14 ∧ V'.heap[B14]? = some (.cells (effC z29) 29 (0, 0))) ∧ listed.getD 10 false = false)
       10 ?stepe ?stope ?fine 11 _ _ _ (by simp) (closed_none _) ⟨#[], none, 0, 0, by simp [selOr]; omega, (Below.refl _ _).drew, by simp, by simp, by simp⟩ (by simp)
      case stepe =>
       rintro listed a V' i hs hc ⟨lb, A, c, B14, rfl, q1, q2, q3, q9⟩ hr hne K hK
       obtain ⟨hlt', hl0⟩ := ready_lt hr
       have hwV : Below w.heap.size w V' := hB ▸ G1.out.below.trans (q1.mono (by have := HZ.out; omega))
       have J := G1.out.step q1 HZ.out.2
       have hi : i = 0 ∨ i = 1 ∨ i = 2 ∨ i = 3 ∨ i = 4 ∨ i = 5 ∨ i = 6 ∨ i = 7 ∨ i = 8 ∨ i = 9 := by simp at hs; omega
       rcases hi with rfl | rfl | rfl | rfl | rfl | rfl | rfl | rfl | rfl | rfl
       ·refine wpOpIn_of rfl rfl ?_
        obtain ⟨b0, b1, b2, b3, b4, b5⟩ := cells6 J.hb
        clear hr hl0
        gi_wp2
        refine ⟨lb, A, c, B14, ?_, q1, by rw [getD_other hlt' (by decide)]; exact q2, by rw [getD_other hlt' (by decide)]; exact q3, by rw [getD_other hlt' (by decide)]; exact q9⟩
        simp (disch := decide) only [selOr_same hlt', selOr_other hlt']
       ·refine wpOpIn_of rfl rfl ?_
        have ck : V'.cell? ⟨W.heap.size, 0, none⟩ = some (.int .i64 (k : Int)) := (blk_cell (keep_below q1 (blk_lt G2.out) G2.out) 0).trans rfl
        clear hr hl0
        gi_wp2
        refine ⟨lb, A, c, B14, ?_, q1, by rw [getD_other hlt' (by decide)]; exact q2, by rw [getD_other hlt' (by decide)]; exact q3, by rw [getD_other hlt' (by decide)]; exact q9⟩
        simp (disch := decide) only [selOr_same hlt', selOr_other hlt']
       ·refine wpOpIn_of rfl rfl ?_
        clear hr hl0
        gi_wp2
        refine ⟨lb, A, c, B14, ?_, q1, by rw [getD_other hlt' (by decide)]; exact q2, by rw [getD_other hlt' (by decide)]; exact q3, by rw [getD_other hlt' (by decide)]; exact q9⟩
        simp (disch := decide) only [selOr_same hlt', selOr_other hlt']
       ·refine wpOpIn_of rfl rfl ?_
        have d0 : listed.getD 0 false = true := ready_after hr rfl { on := 0, ground := .data } (by simp) rfl
        have d1 : listed.getD 1 false = true := ready_after hr rfl { on := 1, ground := .data } (by simp) rfl
        have d2 : listed.getD 2 false = true := ready_after hr rfl { on := 2, ground := .data } (by simp) rfl
        simp only [selOr_on d0, selOr_on d1, selOr_on d2]
        clear hr
        gi_wp2
        refine ⟨trivial, rfl, (callsIn_w (end_calls (some ad) (some ad1) (some ad2) c0 c1 c2 l0 l1 l2 a3 a4 a5 k r V' hlt (by have := HLn.out; omega) (Kd.C_below hr0 hwV) hc0 (Kd.C_below hr1 hwV) hc1 (Kd.C_below hr2 hwV) hc2)).mono ?_⟩
        rintro e V5 ⟨lb5, A5, c5, rfl, hl5, hk5, hb5⟩
        gi_wp2
        have d8 : listed.getD 8 false = false := by
          cases q : listed.getD 8 false
          ·rfl
          ·have := hc 8 _ rfl q { on := 3, ground := .data } (by simp) rfl
           rw [hl0] at this; cases this
        refine ⟨lb5, A5, c5, B14, ?_, q1.trans (hb5.mono q1.size), fun _ => ⟨hl5, hk5⟩, fun h9 => ?_, by rw [getD_other hlt' (by decide)]; exact q9⟩
        ·simp (disch := decide) only [selOr_same hlt', selOr_other hlt', selOr_on d0, selOr_on d1, selOr_on d2]
        ·rw [getD_other hlt' (by decide)] at h9; exact ⟨(q3 h9).1, keep_below hb5 (blk_lt (q3 h9).2) (q3 h9).2⟩
       ·refine wpOpIn_of rfl rfl ?_
        clear hr hl0
        gi_wp2
        refine ⟨lb, A, c, B14, ?_, q1, by rw [getD_other hlt' (by decide)]; exact q2, by rw [getD_other hlt' (by decide)]; exact q3, by rw [getD_other hlt' (by decide)]; exact q9⟩
        simp (disch := decide) only [selOr_same hlt', selOr_other hlt']
       ·refine wpOpIn_of rfl rfl ?_
        have ck : V'.cell? ⟨W.heap.size, 0, none⟩ = some (.int .i64 (k : Int)) := (blk_cell (keep_below q1 (blk_lt G2.out) G2.out) 0).trans rfl
        clear hr hl0
        gi_wp2
        refine ⟨lb, A, c, B14, ?_, q1, by rw [getD_other hlt' (by decide)]; exact q2, by rw [getD_other hlt' (by decide)]; exact q3, by rw [getD_other hlt' (by decide)]; exact q9⟩
        simp (disch := decide) only [selOr_same hlt', selOr_other hlt']
       ·refine wpOpIn_of rfl rfl ?_
        clear hr hl0
        gi_wp2
        refine ⟨lb, A, c, B14, ?_, q1, by rw [getD_other hlt' (by decide)]; exact q2, by rw [getD_other hlt' (by decide)]; exact q3, by rw [getD_other hlt' (by decide)]; exact q9⟩
        simp (disch := decide) only [selOr_same hlt', selOr_other hlt']
       ·refine wpOpIn_of rfl rfl ?_
        have wpt : IntKind.i64.wrap (-1 - (j : Int)) = pt := by rw [i64_w, HPT.out]; exact w64 (by omega) (by omega)
        have d6 : listed.getD 6 false = true := ready_after hr rfl { on := 6, ground := .data } (by simp) rfl
        simp only [selOr_on d6]
        clear hr hl0
        gi_wp2
        refine ⟨lb, A, c, B14, ?_, q1, by rw [getD_other hlt' (by decide)]; exact q2, by rw [getD_other hlt' (by decide)]; exact q3, by rw [getD_other hlt' (by decide)]; exact q9⟩
        simp (disch := decide) only [selOr_same hlt', selOr_other hlt', selOr_on d6]
       ·refine wpOpIn_of rfl rfl ?_
        have d3 : listed.getD 3 false = true := ready_after hr rfl { on := 3, ground := .data } (by simp) rfl
        have d4 : listed.getD 4 false = true := ready_after hr rfl { on := 4, ground := .data } (by simp) rfl
        have d5 : listed.getD 5 false = true := ready_after hr rfl { on := 5, ground := .data } (by simp) rfl
        have d7 : listed.getD 7 false = true := ready_after hr rfl { on := 7, ground := .data } (by simp) rfl
        simp only [selOr_on d3, selOr_on d4, selOr_on d5, selOr_on d7]
        clear hr hl0
        gi_wp2
        obtain ⟨ql, qk⟩ := q2 d3
        refine ⟨trivial, rfl, (worst_in 78 lb _ ct c 2 At A t _ (k : Int) pt V' ql (by have := (errT_zero E2.out).2.1; omega) (Kd.C_below hrt hwV) rfl qk).mono ?_⟩
        rw [HXu.out]
        rintro e V5 ⟨rfl, hb5⟩
        dsimp only [effC]
        gi_wp2
        refine ⟨lb, A, c, B14, ?_, q1.trans (hb5.mono q1.size), fun _ => ⟨ql.below hb5, Kd.C_below qk hb5⟩, fun h9 => ?_, by rw [getD_other hlt' (by decide)]; exact q9⟩
        ·simp (disch := decide) only [selOr_same hlt', selOr_other hlt', selOr_on d3, selOr_on d4, selOr_on d5, selOr_on d7]
        ·rw [getD_other hlt' (by decide)] at h9; exact ⟨(q3 h9).1, keep_below hb5 (blk_lt (q3 h9).2) (q3 h9).2⟩
       ·refine wpOpIn_of rfl rfl ?_
        clear hr
        gi_wp2
        have hba : Below V'.heap.size V' (V'.alloc (.cells (effC z29) 29 (0, 0))) := (Below.refl _ _).alloc (Nat.le_refl _) _
        refine ⟨lb, A, c, V'.heap.size, ?_, q1.trans (hba.mono q1.size), fun h3 => ?_, fun _ => ⟨q1.size, blk_new _ _⟩, by rw [getD_other hlt' (by decide)]; exact q9⟩
        ·simp (disch := decide) only [selOr_same hlt', selOr_other hlt']
        ·rw [getD_other hlt' (by decide)] at h3; exact ⟨(q2 h3).1.below hba, Kd.C_below (q2 h3).2 hba⟩
      case fine =>
       rintro listed a V' hs ⟨lb, A, c, B14, rfl, q1, q2, q3, q9⟩ hr
       exact absurd hr (ready_ne hs (by kernel_rfl) 10 (by simp) q9)
      case stope =>
      rintro listed a V' fuel hs hc ⟨lb, A, c, B14, rfl, q1, q2, q3, q9⟩ hr hfuel
      have d8 : listed.getD 8 false = true := ready_after hr rfl { on := 8, ground := .data } (by simp) rfl
      have d9 : listed.getD 9 false = true := ready_after hr rfl { on := 9, ground := .data } (by simp) rfl
      have d3 : listed.getD 3 false = true := hc 8 _ rfl d8 { on := 3, ground := .data } (by simp) rfl
      have d4 : listed.getD 4 false = true := hc 8 _ rfl d8 { on := 4, ground := .data } (by simp) rfl
      have d5 : listed.getD 5 false = true := hc 8 _ rfl d8 { on := 5, ground := .data } (by simp) rfl
      have d7 : listed.getD 7 false = true := hc 8 _ rfl d8 { on := 7, ground := .data } (by simp) rfl
      have d0 : listed.getD 0 false = true := hc 3 _ rfl d3 { on := 0, ground := .data } (by simp) rfl
      have d1 : listed.getD 1 false = true := hc 3 _ rfl d3 { on := 1, ground := .data } (by simp) rfl
      have d2 : listed.getD 2 false = true := hc 3 _ rfl d3 { on := 2, ground := .data } (by simp) rfl
      have d6 : listed.getD 6 false = true := hc 7 _ rfl d7 { on := 6, ground := .data } (by simp) rfl
      have q14 := q3 d9
      have hl := arr11 (l := listed) (by simpa using hs)
      rw [d0, d1, d2, d3, d4, d5, d6, d7, d8, d9, q9] at hl
      simp only [selOr_on d0, selOr_on d1, selOr_on d2, selOr_on d3, selOr_on d4, selOr_on d5, selOr_on d6, selOr_on d7, selOr_on d8, selOr_on d9]
      subst hl
      refine wpOpIn_of rfl rfl ?_
      obtain ⟨⟨o0, o1, o2, o3⟩, f0, f1, f2, f3⟩ := cells4 q14.2
      gi_wp2
      clear o0 o1 o2 o3 f0 f1 f2 f3
      refine wpAnyIn_done (by kernel_rfl) ?_ _
      gi_wp2
      -- the second region, behind the first one
      obtain ⟨V3, hV3⟩ : ∃ V3, put4 V' B14 X = V3 := ⟨_, rfl⟩
      have h14 : V3.heap[B14]? = some (.cells (effC X) 29 (0, 0)) := by rw [← hV3]; exact put4_blk X q14.2
      have hbV : Below V1.heap.size V1 V3 := by rw [← hV3]; exact q1.trans (put4_below q14.1)
      have J3 := G1.out.step hbV HZ.out.2
      have k13 := keep_below hbV (blk_lt G2.out) G2.out
      have k23 := keep_below hbV (blk_lt G3.out) G3.out
      unfold put4 at hV3
      rw [hV3]
      clear hV3 q14 q1 q2 hs hc hr hfuel d0 d1 d2 d3 d4 d5 d6 d7 d8 d9
      have hLo := HL.out
      have hX0 : 0 ≤ X.f0 ∧ X.f0 ≤ 1152921504606846976 := by
       obtain ⟨pl, _, hme⟩ := endWorst_bd (k := k) (L := l0[k]) (point := pt) (right := r) E1.out E2.out (show 0 ≤ l0[k] ∧ l0[k] ≤ 131072 by omega)
       rw [HX.out] at hme
       rw [hme]
       exact effS_le60 (fun a => endI_bd (by omega) _) E2.out
      have hrest := restV_bd E1.out tr
      have hdyn := (errB_zero E1.out).2.2.2.2.1
      have hMb := (spansOk_ms (errB_zero E1.out).2.2.2.2.2.2.2 k hlt).2
      obtain ⟨fs1, fs2, fs3⟩ := share_fit hdyn hX0 hLo
      have mp0 : 0 ≤ restV a4 a5 tr * l0[k] := Int.mul_nonneg hrest.1 (by omega)
      have mp1 : restV a4 a5 tr * l0[k] ≤ 12288 * 131072 := Int.mul_le_mul hrest.2 (by omega) (by omega) (by decide)
      have fu := up_eq (n := restV a4 a5 tr * l0[k]) (d := 2000) mp0 (by omega) (by decide) (by decide)
      have fu1 := upI_nonneg (n := restV a4 a5 tr * l0[k]) (d := 2000) mp0 (by decide)
      have fu2 := upI_le (n := restV a4 a5 tr * l0[k]) (d := 2000) mp0 (by decide)
      have hfail : failE a3 (restV a4 a5 tr) l0[k] (rd l2 (k : Int)) X = decide (shareZ (1000 + a3) X.f0 (1000 * l0[k]) + upI (restV a4 a5 tr * l0[k]) 2000 > rd l2 (k : Int)) := rfl
      obtain ⟨rs, hrs⟩ : ∃ r, restV a4 a5 tr = r := ⟨_, rfl⟩
      obtain ⟨L, hLk⟩ : ∃ L, l0[k] = L := ⟨_, rfl⟩
      obtain ⟨M, hMk⟩ : ∃ M, rd l2 (k : Int) = M := ⟨_, rfl⟩
      rw [hrs] at fu fu1 fu2 hfail mp0 mp1 hrest
      rw [hLk] at fs1 fs2 fs3 fu fu1 fu2 hfail mp0 mp1 hLo
      rw [hMk] at hfail hMb
      obtain ⟨S, hS⟩ : ∃ S, shareZ (1000 + a3) X.f0 (1000 * L) = S := ⟨_, rfl⟩
      obtain ⟨U, hU⟩ : ∃ U, upI (rs * L) 2000 = U := ⟨_, rfl⟩
      rw [hS] at fs1 fs2 fs3 hfail
      rw [hU] at fu fu1 fu2 hfail
      have FS := Aside0.mk fs1
      have FU := Aside0.mk fu
      have FF := Aside0.mk hfail
      have RS := Aside0.mk hrs
      have LK := Aside0.mk hLk
      have MK := Aside0.mk hMk
      obtain ⟨b0, b1, b2, b3, b4, b5⟩ := cells6 J3.hb
      have ck : V3.cell? ⟨W.heap.size, 0, none⟩ = some (.int .i64 (k : Int)) := (blk_cell k13 0).trans rfl
      have cL : V3.cell? ⟨W.heap.size + 1, 0, none⟩ = some (.int .i64 L) := by rw [← hLk]; exact (blk_cell k23 0).trans rfl
      have cr : V3.cell? ⟨B + 1 + 1 + 1, 0, none⟩ = some (.int .i64 rs) := by rw [← hrs]; exact (blk_cell J3.hr 0).trans rfl
      have cM := ((hB ▸ J3.below : Below w.heap.size w V3).cell (World.block_lt_of_cell? w _ HS0.out)).trans HS0.out
      rw [hMk] at cM
      obtain ⟨⟨y0, y1, y2, y3⟩, _⟩ := cells4 h14
      have w1 : IntKind.i64.wrap (1000 + a3) = 1000 + a3 := by rw [i64_w]; exact w64 (by omega) (by omega)
      have w2 : IntKind.i64.wrap (1000 * L) = 1000 * L := by rw [i64_w]; exact w64 (by omega) (by omega)
      have w3 : IntKind.i64.wrap (rs * L) = rs * L := by rw [i64_w]; exact w64 (by omega) (by omega)
      have w6 : IntKind.i64.wrap (S + U) = S + U := by rw [i64_w]; exact w64 (by omega) (by omega)
      have hkl : k < l2.length := by have := HLn.out; omega
      have HBV := Aside0.mk hbV
      have K14 := Aside0.mk h14
      have K13 := Aside0.mk k13
      have K23 := Aside0.mk k23
      have J3A := Aside0.mk J3
      clear hrs hLk hMk fs1 fs2 fs3 fu fu1 fu2 hfail mp0 mp1 hS hU hX0 hLo hrest hMb hdyn hbV h14 k13 k23 J3
      refine wpIn_region_any (by kernel_rfl) ?_
      change wpAnyIn _ _ _ _ _ _ _ _ _ (World.drew V3)
      refine wpAnyIn_inv (fun listed a V' => a = { tmps := (.agg #[.slice (some ad) l0.length c0, .slice (some ad1) l1.length c1, .slice (some ad2) l2.length c2, .int .i64 a3, .int .i64 a4, .int .i64 a5] :: .slice At t.length ct :: .bool tr :: .pointer (some ⟨B, 0, none⟩) :: undef :: undef :: .pointer (some ⟨B + 1, 0, none⟩) :: .pointer (some ⟨B + 1 + 1, 0, none⟩) :: .pointer (some ⟨B + 1 + 1 + 1, 0, none⟩) :: .pointer (some ⟨W.heap.size, 0, none⟩) :: .pointer (some ⟨W.heap.size + 1, 0, none⟩) :: u11 :: .int .i64 (j : Int) :: .bool r :: .pointer (some ⟨B14, 0, none⟩) :: .bool tr :: u16 :: u17 :: u18 :: u19 :: u20 :: u21 :: .pointer (some ⟨B, 0, none⟩) :: .slice (some ad) l0.length c0 :: .int .i64 (l0.length : Int) :: .int .i64 (k : Int) :: .bool true :: .int .i64 (k : Int) :: .pointer (some (ad.add k)) :: .int .i64 l0[k] :: .agg #[.slice (some ad) l0.length c0, .slice (some ad1) l1.length c1, .slice (some ad2) l2.length c2, .int .i64 a3, .int .i64 a4, .int .i64 a5] :: .slice At t.length ct :: .int .i64 (k : Int) :: .func (.func 85) #[] #[.pointer (some ⟨W.heap.size + 2, 0, none⟩), .pointer (some ⟨W.heap.size + 2 + 1 + 1, 0, none⟩), .pointer (some ⟨W.heap.size + 2 + 1, 0, none⟩)] :: u34 :: u35 :: u36 :: u37 :: u38 :: u39 :: u40 :: u41 :: u42 :: u43 :: u44 :: u45 :: u46 :: u47 :: u48 :: u49 :: u50 :: u51 :: u52 :: u53 :: u54 :: u55 :: u56 :: u57 :: u58 :: u59 :: u60 :: u61 :: .agg #[.bool false, .bool true] :: .int .i64 (j : Int) :: .bool true :: .int .i64 (j : Int) :: .bool r :: .agg #[.slice (some ad) l0.length c0, .slice (some ad1) l1.length c1, .slice (some ad2) l2.length c2, .int .i64 a3, .int .i64 a4, .int .i64 a5] :: .int .i64 (k : Int) :: .bool r :: .agg #[.func (.func 78) #[] lb, .slice A 2 c] :: .slice At t.length ct :: .int .i64 (k : Int) :: .int .i64 (j : Int) :: .int .i64 pt :: .agg #[.int .i64 X.f0, .int .i64 X.f1, .int .i64 X.f2, .int .i64 X.f3] :: selOr listed 0 (.pointer (some ⟨B, 3, none⟩)) u76 :: selOr listed 1 (.int .i64 a3) u77 :: selOr listed 2 (.int .i64 (1000 + a3)) u78 :: selOr listed 3 (.pointer (some ⟨B14, 0, none⟩)) u79 :: selOr listed 4 (.int .i64 X.f0) u80 :: selOr listed 5 (.int .i64 L) u81 :: selOr listed 6 (.int .i64 (1000 * L)) u82 :: selOr listed 7 (.int .i64 S) u83 :: selOr listed 8 (.int .i64 rs) u84 :: selOr listed 9 (.int .i64 L) u85 :: selOr listed 10 (.int .i64 (rs * L)) u86 :: selOr listed 11 (.int .i64 U) u87 :: selOr listed 12 (.int .i64 (S + U)) u88 :: selOr listed 13 (.pointer (some ⟨B, 2, none⟩)) u89 :: selOr listed 14 (.slice (some ad2) l2.length c2) u90 :: selOr listed 15 (.int .i64 (k : Int)) u91 :: selOr listed 16 (.pointer (some (ad2.add k))) u92 :: selOr listed 17 (.int .i64 M) u93 :: selOr listed 18 (.bool (decide (M < S + U))) u94 :: u95 :: u96 :: u97 :: u98 :: []).toArray, defers := { target := .collected D, args := #[] } :: ds } ∧ ∃ m, V' = World.drewN V3 m)
       26 ?stepq ?stopq ?finq 19 _ _ _ (by simp) (closed_none _) ⟨by simp [selOr], 1, rfl⟩ (by simp)
      case stopq =>
       intro listed a V' fuel hs hc hi hr
       have := (ready_lt hr).1
       simp at hs
       omega
      case stepq =>
       rintro listed a V' i hs hc ⟨rfl, m, rfl⟩ hr hne K hK
       obtain ⟨hlt', hl0⟩ := ready_lt hr
       have hi : i = 0 ∨ i = 1 ∨ i = 2 ∨ i = 3 ∨ i = 4 ∨ i = 5 ∨ i = 6 ∨ i = 7 ∨ i = 8 ∨ i = 9 ∨ i = 10 ∨ i = 11 ∨ i = 12 ∨ i = 13 ∨ i = 14 ∨ i = 15 ∨ i = 16 ∨ i = 17 ∨ i = 18 := by simp at hs; omega
       rcases hi with rfl | rfl | rfl | rfl | rfl | rfl | rfl | rfl | rfl | rfl | rfl | rfl | rfl | rfl | rfl | rfl | rfl | rfl | rfl
       ·refine wpOpIn_of rfl rfl ?_
        clear hr hl0
        gi_wp2
        refine ⟨?_, m, rfl⟩
        simp (disch := decide) only [selOr_same hlt', selOr_other hlt']
       ·refine wpOpIn_of rfl rfl ?_
        have d0 : listed.getD 0 false = true := ready_after hr rfl { on := 0, ground := .data } (by simp) rfl
        simp only [selOr_on d0]
        clear hr hl0
        gi_wp2
        refine ⟨?_, m, rfl⟩
        simp (disch := decide) only [selOr_same hlt', selOr_other hlt', selOr_on d0]
       ·refine wpOpIn_of rfl rfl ?_
        have d1 : listed.getD 1 false = true := ready_after hr rfl { on := 1, ground := .data } (by simp) rfl
        simp only [selOr_on d1]
        clear hr hl0
        gi_wp2
        refine ⟨?_, m, rfl⟩
        simp (disch := decide) only [selOr_same hlt', selOr_other hlt', selOr_on d1]
       ·refine wpOpIn_of rfl rfl ?_
        clear hr hl0
        gi_wp2
        refine ⟨?_, m, rfl⟩
        simp (disch := decide) only [selOr_same hlt', selOr_other hlt']
       ·refine wpOpIn_of rfl rfl ?_
        have d3 : listed.getD 3 false = true := ready_after hr rfl { on := 3, ground := .data } (by simp) rfl
        simp only [selOr_on d3]
        clear hr hl0
        gi_wp2
        refine ⟨?_, m, rfl⟩
        simp (disch := decide) only [selOr_same hlt', selOr_other hlt', selOr_on d3]
       ·refine wpOpIn_of rfl rfl ?_
        clear hr hl0
        gi_wp2
        refine ⟨?_, m, rfl⟩
        simp (disch := decide) only [selOr_same hlt', selOr_other hlt']
       ·refine wpOpIn_of rfl rfl ?_
        have d5 : listed.getD 5 false = true := ready_after hr rfl { on := 5, ground := .data } (by simp) rfl
        simp only [selOr_on d5]
        clear hr hl0
        gi_wp2
        refine ⟨?_, m, rfl⟩
        simp (disch := decide) only [selOr_same hlt', selOr_other hlt', selOr_on d5]
       ·refine wpOpIn_of rfl rfl ?_
        have d2 : listed.getD 2 false = true := ready_after hr rfl { on := 2, ground := .data } (by simp) rfl
        have d4 : listed.getD 4 false = true := ready_after hr rfl { on := 4, ground := .data } (by simp) rfl
        have d6 : listed.getD 6 false = true := ready_after hr rfl { on := 6, ground := .data } (by simp) rfl
        simp only [selOr_on d2, selOr_on d4, selOr_on d6]
        clear hr hl0
        gi_wp2
        refine ⟨trivial, rfl, (callsIn_w (bridge_share.calls _ _ _ _ _ FS.out)).mono ?_⟩
        rintro e V5 ⟨rfl, ⟨nd, rfl⟩⟩
        gi_wp2
        refine ⟨?_, m + nd, rfl⟩
        simp (disch := decide) only [selOr_same hlt', selOr_other hlt', selOr_on d2, selOr_on d4, selOr_on d6]
       ·refine wpOpIn_of rfl rfl ?_
        clear hr hl0
        gi_wp2
        refine ⟨?_, m, rfl⟩
        simp (disch := decide) only [selOr_same hlt', selOr_other hlt']
       ·refine wpOpIn_of rfl rfl ?_
        clear hr hl0
        gi_wp2
        refine ⟨?_, m, rfl⟩
        simp (disch := decide) only [selOr_same hlt', selOr_other hlt']
       ·refine wpOpIn_of rfl rfl ?_
        have d8 : listed.getD 8 false = true := ready_after hr rfl { on := 8, ground := .data } (by simp) rfl
        have d9 : listed.getD 9 false = true := ready_after hr rfl { on := 9, ground := .data } (by simp) rfl
        simp only [selOr_on d8, selOr_on d9]
        clear hr hl0
        gi_wp2
        refine ⟨?_, m, rfl⟩
        simp (disch := decide) only [selOr_same hlt', selOr_other hlt', selOr_on d8, selOr_on d9]
       ·refine wpOpIn_of rfl rfl ?_
        have d10 : listed.getD 10 false = true := ready_after hr rfl { on := 10, ground := .data } (by simp) rfl
        simp only [selOr_on d10]
        clear hr hl0
        gi_wp2
        refine ⟨trivial, rfl, (callsIn_w (bridge_up.calls _ _ _ _ FU.out)).mono ?_⟩
        rintro e V5 ⟨rfl, ⟨nd, rfl⟩⟩
        gi_wp2
        refine ⟨?_, m + nd, rfl⟩
        simp (disch := decide) only [selOr_same hlt', selOr_other hlt', selOr_on d10]
       ·refine wpOpIn_of rfl rfl ?_
        have d7 : listed.getD 7 false = true := ready_after hr rfl { on := 7, ground := .data } (by simp) rfl
        have d11 : listed.getD 11 false = true := ready_after hr rfl { on := 11, ground := .data } (by simp) rfl
        simp only [selOr_on d7, selOr_on d11]
        clear hr hl0
        gi_wp2
        refine ⟨?_, m, rfl⟩
        simp (disch := decide) only [selOr_same hlt', selOr_other hlt', selOr_on d7, selOr_on d11]
       ·refine wpOpIn_of rfl rfl ?_
        clear hr hl0
        gi_wp2
        refine ⟨?_, m, rfl⟩
        simp (disch := decide) only [selOr_same hlt', selOr_other hlt']
       ·refine wpOpIn_of rfl rfl ?_
        have d13 : listed.getD 13 false = true := ready_after hr rfl { on := 13, ground := .data } (by simp) rfl
        simp only [selOr_on d13]
        clear hr hl0
        gi_wp2
        refine ⟨?_, m, rfl⟩
        simp (disch := decide) only [selOr_same hlt', selOr_other hlt', selOr_on d13]
       ·refine wpOpIn_of rfl rfl ?_
        clear hr hl0
        gi_wp2
        refine ⟨?_, m, rfl⟩
        simp (disch := decide) only [selOr_same hlt', selOr_other hlt']
       ·refine wpOpIn_of rfl rfl ?_
        have d14 : listed.getD 14 false = true := ready_after hr rfl { on := 14, ground := .data } (by simp) rfl
        have d15 : listed.getD 15 false = true := ready_after hr rfl { on := 15, ground := .data } (by simp) rfl
        simp only [selOr_on d14, selOr_on d15]
        clear hr hl0
        gi_wp2
        refine ⟨?_, m, rfl⟩
        simp (disch := decide) only [selOr_same hlt', selOr_other hlt', selOr_on d14, selOr_on d15]
       ·refine wpOpIn_of rfl rfl ?_
        have d16 : listed.getD 16 false = true := ready_after hr rfl { on := 16, ground := .data } (by simp) rfl
        simp only [selOr_on d16]
        clear hr hl0
        gi_wp2
        refine ⟨?_, m, rfl⟩
        simp (disch := decide) only [selOr_same hlt', selOr_other hlt', selOr_on d16]
       ·refine wpOpIn_of rfl rfl ?_
        have d12 : listed.getD 12 false = true := ready_after hr rfl { on := 12, ground := .data } (by simp) rfl
        have d17 : listed.getD 17 false = true := ready_after hr rfl { on := 17, ground := .data } (by simp) rfl
        simp only [selOr_on d12, selOr_on d17]
        clear hr hl0
        gi_wp2
        refine ⟨?_, m, rfl⟩
        simp (disch := decide) only [selOr_same hlt', selOr_other hlt', selOr_on d12, selOr_on d17]
      case finq =>
       rintro listed a V' hs ⟨rfl, m, rfl⟩ hr
       have all : ∀ j, j < 19 → listed.getD j false = true := fun j hj => by
        cases q : listed.getD j false
        ·exact absurd hr (ready_ne hs (by kernel_rfl) j (by simpa using hj) q)
        ·rfl
       simp only [selOr_on (all 0 (by decide)), selOr_on (all 1 (by decide)), selOr_on (all 2 (by decide)), selOr_on (all 3 (by decide)), selOr_on (all 4 (by decide)), selOr_on (all 5 (by decide)), selOr_on (all 6 (by decide)), selOr_on (all 7 (by decide)), selOr_on (all 8 (by decide)), selOr_on (all 9 (by decide)), selOr_on (all 10 (by decide)), selOr_on (all 11 (by decide)), selOr_on (all 12 (by decide)), selOr_on (all 13 (by decide)), selOr_on (all 14 (by decide)), selOr_on (all 15 (by decide)), selOr_on (all 16 (by decide)), selOr_on (all 17 (by decide)), selOr_on (all 18 (by decide))]
       clear all hr hs
       clear b0 b1 b2 b3 b4 b5 ck cL cr cM w1 w2 w3 w6 y0 y1 y2 y3
       have hbm : Below V3.heap.size V3 (World.drewN V3 m) := pw_below_drewN (Below.refl _ _) m
       obtain ⟨V4, hV4⟩ : ∃ V4, World.drewN V3 m = V4 := ⟨_, rfl⟩
       rw [hV4] at hbm ⊢
       clear hV4
       have J4 := J3A.out.step hbm J3A.out.size.2
       have HBM := Aside0.mk hbm
       clear hbm
       by_cases hd : M < S + U
       ·have d1 : decide (M < S + U) = true := decide_eq_true hd
        have hfl := FF.out
        rw [decide_eq_true (show S + U > M from hd)] at hfl
        rw [← RS.out, ← LK.out, ← MK.out] at hfl
        have hbv : bearsV l0 l1 l2 a3 a4 a5 t tr = some X := by
         refine bearsV_at hlt hnone ?_
         unfold spanBad
         rw [rd_get l0 k hlt, NF.out]
         rcases HR.out with ⟨rfl, rfl⟩ | ⟨rfl, rfl⟩
         ·have e := HX.out
          rw [show pt = -1 by have := HPT.out; omega] at e
          rw [e, if_pos hfl]
         ·have e := HX.out
          rw [show pt = -2 by have := HPT.out; omega] at e
          rw [HO.out.1 (by omega), if_neg (by decide), e, if_pos hfl]
        have HBR := Aside0.mk hbv
        first | rw [d1] | skip
        clear hd hfl hbv
        obtain ⟨⟨o0, o1, o2, o3⟩, f0, f1, f2, f3⟩ := cells4 J4.he
        obtain ⟨⟨y0, y1, y2, y3⟩, _⟩ := cells4 (keep_below HBM.out (blk_lt K14.out) K14.out)
        have fb := blk_frozen J4.hf 0
        have cb : V4.cell? ⟨B + 1 + 1, 0, none⟩ = some (.bool false) := (blk_cell J4.hf 0).trans rfl
        gi_wp2
        have HE := (bear_store X.f0 X.f1 X.f2 X.f3 (T := fun _ => True) J4 HBM.out trivial trivial).2
        have hEs := HE.size
        refine leaves_coll (B := B + 4) _ (D + 1) _ HE.coll fun W' hW' => ?_
        refine ⟨_, results_eb rfl _ _ (B + 1) (effC X) (B + 1 + 1) (.bool true) rfl rfl ((hW'.block _ (by omega)).trans HE.he) ((blk_cell ((hW'.block _ (by omega)).trans HE.hf) 0).trans rfl) rfl, ?_⟩
        exact ⟨by rw [HBR.out]; rfl, hB ▸ HE.below.trans (hW'.mono (by omega))⟩
       ·have d1 : decide (M < S + U) = false := decide_eq_false hd
        have hfl := FF.out
        rw [decide_eq_false (show ¬ S + U > M from hd)] at hfl
        rw [← RS.out, ← LK.out, ← MK.out] at hfl
        have HF := Aside0.mk hfl
        first | rw [d1] | skip
        clear hd hfl
        gi_wp2
        refine ⟨⟨j + 1, by omega, by simp, ⟨fun _ => ?_, fun _ => ?_⟩, J4, keep_below HBM.out (blk_lt K13.out) K13.out, keep_below HBM.out (blk_lt K23.out) K23.out⟩, by simp [intOf]; omega⟩
        ·rcases HR.out with ⟨rfl, rfl⟩ | ⟨rfl, rfl⟩
         ·have e := HX.out
          rw [show pt = -1 by have := HPT.out; omega] at e
          rw [e]; exact HF.out
         ·exact HO.out.1 (by omega)
        ·rcases HR.out with ⟨rfl, rfl⟩ | ⟨rfl, rfl⟩
         ·omega
         ·have e := HX.out
          rw [show pt = -2 by have := HPT.out; omega] at e
          rw [e]; exact HF.out
     ·have e : j = 2 := by omega
      subst e
      have hsb : spanBad l0 l1 l2 a3 (restV a4 a5 tr) t k = none := by
       unfold spanBad
       rw [rd_get l0 k hlt, NF.out, hok.1 (by omega), hok.2 (by omega)]
       rfl
      have HSB := Aside0.mk hsb
      have HN := Aside0.mk hnone
      have G1 := Aside0.mk g1
      clear hsb hok g1 g2 g3
      have hk1 : wrap64 ((k : Int) + 1) = ((k + 1 : Nat) : Int) := by rw [w64 (by have := HLn.out; omega) (by have := HLn.out; omega)]; rfl
      gi_wp2
      first | rw [hk1] | skip
      clear hk1
      have hle : k + 1 ≤ l0.length := hlt
      have hlr : (k : Int) + 1 ≤ (l0.length : Int) := by exact_mod_cast hle
      refine ⟨⟨k + 1, { target := .collected D, args := #[] } :: ds, _, _, _, _, _, _, _, _, _, _, _, _, _, _, _, _, _, _, _, _, _, _, _, _, _, _, _, _, _, _, _, _, _, _, _, _, _, _, _, _, _, _, _, _, _, _, _, _, _, _, _, _, _, _, _, _, _, _, _, _, _, _, _, _, _, _, _, _, _, _, _, _, _, _, _, _, _, _,  rfl, hle, fun i hi => ?_, G1.out.up⟩, by simp [intOf]; omega⟩
      by_cases e : i = k
      ·subst e; exact HSB.out
      ·exact HN.out i (Nat.lt_of_le_of_ne (Nat.le_of_lt_succ hi) e)
  ·have hbv : bearsV l0 l1 l2 a3 a4 a5 t tr = none := bearsV_none fun i hi => hnone i (by omega)
   have HBR := Aside0.mk hbv
   clear hbv
   obtain ⟨⟨o0, o1, o2, o3⟩, f0, f1, f2, f3⟩ := cells4 I.he
   have fb := blk_frozen I.hf 0
   have cb : W.cell? ⟨B + 1 + 1, 0, none⟩ = some (.bool false) := (blk_cell I.hf 0).trans rfl
   gi_wp2
   have HE := bear_none I
   have hEs := HE.size
   refine leaves_coll (B := B + 4) _ W.heap.size _ HE.coll fun W' hW' => ?_
   refine ⟨_, results_eb rfl _ _ (B + 1) (effC z29) (B + 1 + 1) (.bool false) rfl rfl ((hW'.block _ (by omega)).trans HE.he) ((blk_cell ((hW'.block _ (by omega)).trans HE.hf) 0).trans rfl) rfl, ?_⟩
   exact ⟨by rw [HBR.out]; rfl, hB ▸ HE.below.trans (hW'.mono (by omega))⟩
end Go.Proofs.Ytiklpefckadgdaa.P
namespace Go.Proofs.Ytiklpefckadgdaa.P
open Go.RowKit Go.Proofs.YtiklpefckadgdaaW.PrintWords Go.Proofs.YtiklpefckadgdaaW.PrintLast Go.Proofs.YtiklpefckadgdaaW.PrintMore
set_option linter.unusedVariables false
def bridge_bears.f (l0_0 : List Int) (l0_1 : List Int) (l0_2 : List Int) (a0_3 : Int) (a0_4 : Int) (a0_5 : Int) (l1 : List (S35)) (a2 : Bool) : Option (Int × Int × Int × Int × Bool) :=
 if errB l0_0 l0_1 l0_2 a0_3 a0_4 a0_5 = 0 ∧ errT l1 = 0 then some ((bearsR (bearsV l0_0 l0_1 l0_2 a0_3 a0_4 a0_5 l1 a2)).1.f0, (bearsR (bearsV l0_0 l0_1 l0_2 a0_3 a0_4 a0_5 l1 a2)).1.f1, (bearsR (bearsV l0_0 l0_1 l0_2 a0_3 a0_4 a0_5 l1 a2)).1.f2, (bearsR (bearsV l0_0 l0_1 l0_2 a0_3 a0_4 a0_5 l1 a2)).1.f3, (bearsR (bearsV l0_0 l0_1 l0_2 a0_3 a0_4 a0_5 l1 a2)).2) else none
theorem bridge_bears.calls (A0_0 : Option Addr) (c0_0 : Nat) (l0_0 : List Int) (A0_1 : Option Addr) (c0_1 : Nat) (l0_1 : List Int) (A0_2 : Option Addr) (c0_2 : Nat) (l0_2 : List Int) (a0_3 : Int) (a0_4 : Int) (a0_5 : Int) (A1 : Option Addr) (c1 : Nat) (l1 : List (S35)) (a2 : Bool) (r1 : Int) (r2 : Int) (r3 : Int) (r4 : Int) (r5 : Bool) (w : World) (hr0_0 : Kd.C (Kd.int .i64) w A0_0 l0_0.length l0_0) (hc0_0 : l0_0.length ≤ c0_0) (hr0_1 : Kd.C (Kd.int .i64) w A0_1 l0_1.length l0_1) (hc0_1 : l0_1.length ≤ c0_1) (hr0_2 : Kd.C (Kd.int .i64) w A0_2 l0_2.length l0_2) (hc0_2 : l0_2.length ≤ c0_2) (hr1 : Kd.C k35 w A1 l1.length l1) (hc1 : l1.length ≤ c1) (h : bridge_bears.f l0_0 l0_1 l0_2 a0_3 a0_4 a0_5 l1 a2 = some (r1, r2, r3, r4, r5)) :
  Calls Try.prog 62 #[.agg #[.slice A0_0 l0_0.length c0_0, .slice A0_1 l0_1.length c0_1, .slice A0_2 l0_2.length c0_2, .int .i64 a0_3, .int .i64 a0_4, .int .i64 a0_5], .slice A1 l1.length c1, .bool a2] w fun e w' => e = .returned (.tuple #[.agg #[.int .i64 r1, .int .i64 r2, .int .i64 r3, .int .i64 r4], .bool r5]) ∧ Below w.heap.size w w' := by
 unfold bridge_bears.f at h
 split at h
 case isFalse => exact absurd h (by simp)
 rename_i hg
 have h' := Option.some.inj h
 simp only [Prod.mk.injEq] at h'
 obtain ⟨q1, q2, q3, q4, q5⟩ := h'
 refine ((callsIn_wide (n := 0)).1 (bears_in A0_0 A0_1 A0_2 A1 c0_0 c0_1 c0_2 c1 l0_0 l0_1 l0_2 a0_3 a0_4 a0_5 l1 a2 w hg.1 hg.2 hr0_0 hc0_0 hr0_1 hc0_1 hr0_2 hc0_2 hr1)).mono ?_
 rintro e w' ⟨he, hb⟩
 refine ⟨?_, hb⟩
 rw [he, ← q1, ← q2, ← q3, ← q4, ← q5]
 rfl
end Go.Proofs.Ytiklpefckadgdaa.P
noncomputable section
namespace Go.Proofs.Ytiklpefckadgdaa.P
open Go.RowKit Go.Proofs.YtiklpefckadgdaaW.PrintWords Go.Proofs.YtiklpefckadgdaaW.PrintLast Go.Proofs.YtiklpefckadgdaaW.PrintMore
attribute [local go_sem] max2_int min2_int max_two min_two max_three min_three max_four min_four   -- for this text's walks alone
set_option linter.unusedVariables false
set_option linter.unusedSimpArgs false
def bridge_Bears.f (k : Nat) (l0_0 : List Int) (l0_1 : List Int) (l0_2 : List Int) (a0_3 : Int) (a0_4 : Int) (a0_5 : Int) (l1 : List (S35)) (a2 : Bool) : Option (Int × Int × Int × Int × Int) := (bridge_both.f k l0_0 l0_1 l0_2 a0_3 a0_4 a0_5 l1).bind fun t103 => (if t103 = 0 then ((bridge_bears.f l0_0 l0_1 l0_2 a0_3 a0_4 a0_5 l1 a2).bind fun bt104 => (if bt104.2.2.2.2 = true then (some (bt104.1, bt104.2.1, bt104.2.2.1, bt104.2.2.2.1, 14)) else (some (0, 0, 0, 0, 0)))) else (some (0, 0, 0, 0, t103)))
theorem bridge_Bears.mono : ∀ a0 a1 a2 a3 a4 a5 a6 a7 k, LeO (bridge_Bears.f k a0 a1 a2 a3 a4 a5 a6 a7) (bridge_Bears.f (k + 1) a0 a1 a2 a3 a4 a5 a6 a7) := by
 intro a0 a1 a2 a3 a4 a5 a6 a7 k
 unfold bridge_Bears.f
 repeat' first
   | (with_reducible exact bridge_both.mono _ _ _ _ _ _ _ _)
   | (with_reducible exact LeO.refl _)
   | (with_reducible exact LeO.none _)
   | (with_reducible refine LeO.ite ?_ ?_)
   | (with_reducible refine LeO.bind ?_ (fun _ => ?_))
   | exact bridge_both.mono _ _ _ _ _ _ _ _
   | exact LeO.none _
   | refine LeO.ite ?_ ?_
   | refine LeO.bind ?_ (fun _ => ?_)
set_option maxHeartbeats 8000000 in
set_option maxRecDepth 100000 in
theorem bridge_Bears.calls (k : Nat) (A0_0 : Option Addr) (c0_0 : Nat) (l0_0 : List Int) (A0_1 : Option Addr) (c0_1 : Nat) (l0_1 : List Int) (A0_2 : Option Addr) (c0_2 : Nat) (l0_2 : List Int) (a0_3 : Int) (a0_4 : Int) (a0_5 : Int) (A1 : Option Addr) (c1 : Nat) (l1 : List (S35)) (a2 : Bool) (r1 : Int) (r2 : Int) (r3 : Int) (r4 : Int) (r5 : Int) (w : World) (hr0_0 : Kd.C (Kd.int .i64) w A0_0 l0_0.length l0_0) (hc0_0 : l0_0.length ≤ c0_0) (hr0_1 : Kd.C (Kd.int .i64) w A0_1 l0_1.length l0_1) (hc0_1 : l0_1.length ≤ c0_1) (hr0_2 : Kd.C (Kd.int .i64) w A0_2 l0_2.length l0_2) (hc0_2 : l0_2.length ≤ c0_2) (hr1 : Kd.C k35 w A1 l1.length l1) (hc1 : l1.length ≤ c1) (h : bridge_Bears.f k l0_0 l0_1 l0_2 a0_3 a0_4 a0_5 l1 a2 = some (r1, r2, r3, r4, r5)) :
  Calls Try.prog 27 #[.agg #[.slice A0_0 l0_0.length c0_0, .slice A0_1 l0_1.length c0_1, .slice A0_2 l0_2.length c0_2, .int .i64 a0_3, .int .i64 a0_4, .int .i64 a0_5], .slice A1 l1.length c1, .bool a2] w fun e w' => e = .returned (.tuple #[.agg #[.int .i64 r1, .int .i64 r2, .int .i64 r3, .int .i64 r4], .int .i64 r5]) ∧ Below w.heap.size w w' := by
 have hu24 := Try.underlying24
 have hu29 := Try.underlying29
 have HR0_0 := Aside0.mk hr0_0
 have HC0_0 := Aside0.mk hc0_0
 clear hr0_0 hc0_0
 have HR0_1 := Aside0.mk hr0_1
 have HC0_1 := Aside0.mk hc0_1
 clear hr0_1 hc0_1
 have HR0_2 := Aside0.mk hr0_2
 have HC0_2 := Aside0.mk hc0_2
 clear hr0_2 hc0_2
 have HR1 := Aside0.mk hr1
 have HC1 := Aside0.mk hc1
 clear hr1 hc1
 have HB := Aside0.mk (Below.refl w.heap.size w)
 have H : ((bridge_both.f k l0_0 l0_1 l0_2 a0_3 a0_4 a0_5 l1).bind fun t103 => (if t103 = 0 then ((bridge_bears.f l0_0 l0_1 l0_2 a0_3 a0_4 a0_5 l1 a2).bind fun bt104 => (if bt104.2.2.2.2 = true then (some (bt104.1, bt104.2.1, bt104.2.2.1, bt104.2.2.2.1, 14)) else (some (0, 0, 0, 0, 0)))) else (some (0, 0, 0, 0, t103)))) = some (r1, r2, r3, r4, r5) := h
 clear h
 replace H := Option.bind_eq_some_iff.mp H
 obtain ⟨t103, A40, H⟩ := H
 replace H : (if t103 = 0 then ((bridge_bears.f l0_0 l0_1 l0_2 a0_3 a0_4 a0_5 l1 a2).bind fun bt104 => (if bt104.2.2.2.2 = true then (some (bt104.1, bt104.2.1, bt104.2.2.1, bt104.2.2.2.1, 14)) else (some (0, 0, 0, 0, 0)))) else (some (0, 0, 0, 0, t103))) = some (r1, r2, r3, r4, r5) := H
 have A4 := Aside0.mk A40
 clear A40
 by_cases c5 : t103 = 0
 ·rw [if_pos c5] at H
  have c5b0 : (t103 == 0) = true := beq_iff_eq.mpr c5
  have c5b1 : (t103 != 0) = false := bne_eq_false_iff_eq.mpr c5
  clear c5
  replace H := Option.bind_eq_some_iff.mp H
  obtain ⟨⟨t104, t105, t106, t107, t108⟩, A60, H⟩ := H
  replace H : (if t108 = true then (some (t104, t105, t106, t107, 14)) else (some (0, 0, 0, 0, 0))) = some (r1, r2, r3, r4, r5) := H
  have A6 := Aside0.mk A60
  clear A60
  by_cases c7 : t108 = true
  ·subst c7
   have H1 : (some (t104, t105, t106, t107, 14)) = some (r1, r2, r3, r4, r5) := by rw [if_pos rfl] at H; exact H
   clear H
   have H := H1
   clear H1
   simp only [Option.some.injEq, Prod.mk.injEq] at H
   obtain ⟨rfl, rfl, rfl, rfl, rfl⟩ := H
   go_enter Try.func27, Try.ntmps27
   go_wp2_with (first | ((with_reducible refine gate_dst (N := 3) rfl ?_); refine box_event ?hg (N := 3) ?hd (cs := #[.slice A0_0 l0_0.length c0_0, .slice A0_1 l0_1.length c0_1, .slice A0_2 l0_2.length c0_2, .int .i64 a0_3, .int .i64 a0_4, .int .i64 a0_5]) (t := 24) ?hr ?_; (case hd => rfl); (case hg => rfl); (case hr => first | (go_simp; done) | (go_simp; rfl)); intro gb101 hg w8 hbox hb; have n0_ := Aside0.mk (below_step (by repeat (first | (with_reducible first | exact HB.out | apply below_alloc | apply pw_below_drewN | apply below_drew1) | exact HB.out)) hb); have n1_ := Aside0.mk (hbox); have n2_ := Aside0.mk ((by rw [hg]; exact (below_size (by repeat (first | (with_reducible first | exact HB.out | apply below_alloc | apply pw_below_drewN | apply below_drew1) | exact HB.out))) : w.heap.size ≤ gb101)); have n3_ := Aside0.mk ((by rw [hg]; exact (below_size (by repeat (first | (with_reducible first | exact HB.out | apply below_alloc | apply pw_below_drewN | apply below_drew1) | exact HB.out))) : w.heap.size ≤ gb101)); clear HB; have HB := n0_; have BK101 := n1_; have GW101 := n2_; have GE101 := n3_; clear n0_ n1_ n2_ n3_; clear hb hbox hg) | ((with_reducible refine gate_dst (N := 6) rfl ?_); refine box_event ?hg (N := 6) ?hd (cs := #[.int .i64 0, .int .i64 0, .int .i64 0, .int .i64 0]) (t := 29) ?hr ?_; (case hd => rfl); (case hg => rfl); (case hr => first | (go_simp; done) | (go_simp; rfl)); intro gb102 hg w9 hbox hb; have n0_ := Aside0.mk (blk_below (g := gb101) (o := .cells #[.slice A0_0 l0_0.length c0_0, .slice A0_1 l0_1.length c0_1, .slice A0_2 l0_2.length c0_2, .int .i64 a0_3, .int .i64 a0_4, .int .i64 a0_5] 24 (0, 0)) (by (with_reducible repeat (first | refine blk_drewN ?_ _ | refine blk_drew ?_ | refine blk_alloc ?_ _)); exact BK101.out) hb); have n1_ := Aside0.mk (below_step (by repeat (first | (with_reducible first | exact HB.out | apply below_alloc | apply pw_below_drewN | apply below_drew1 | refine below_set ?_ GE101.out) | exact HB.out)) hb); have n2_ := Aside0.mk (hbox); have n3_ := Aside0.mk ((by rw [hg]; exact (below_size (by repeat (first | (with_reducible first | exact HB.out | apply below_alloc | apply pw_below_drewN | apply below_drew1 | refine below_set ?_ GE101.out) | exact HB.out))) : w.heap.size ≤ gb102)); have n4_ := Aside0.mk ((by rw [hg]; exact (below_size (by repeat (first | (with_reducible first | exact HB.out | apply below_alloc | apply pw_below_drewN | apply below_drew1 | refine below_set ?_ GE101.out) | exact HB.out))) : w.heap.size ≤ gb102)); have n5_ := Aside0.mk ((by rw [hg]; exact Nat.ne_of_lt (blk_lt (g := gb101) (o := .cells #[.slice A0_0 l0_0.length c0_0, .slice A0_1 l0_1.length c0_1, .slice A0_2 l0_2.length c0_2, .int .i64 a0_3, .int .i64 a0_4, .int .i64 a0_5] 24 (0, 0)) (by (with_reducible repeat (first | refine blk_drewN ?_ _ | refine blk_drew ?_ | refine blk_alloc ?_ _)); exact BK101.out)) : gb101 ≠ gb102)); have n6_ := Aside0.mk ((by rw [hg]; exact Nat.ne_of_gt (blk_lt (g := gb101) (o := .cells #[.slice A0_0 l0_0.length c0_0, .slice A0_1 l0_1.length c0_1, .slice A0_2 l0_2.length c0_2, .int .i64 a0_3, .int .i64 a0_4, .int .i64 a0_5] 24 (0, 0)) (by (with_reducible repeat (first | refine blk_drewN ?_ _ | refine blk_drew ?_ | refine blk_alloc ?_ _)); exact BK101.out)) : gb102 ≠ gb101)); clear BK101; clear HB; have BK101 := n0_; have HB := n1_; have BK102 := n2_; have GW102 := n3_; have GE102 := n4_; have NB101_102 := n5_; have NB102_101 := n6_; clear n0_ n1_ n2_ n3_ n4_ n5_ n6_; clear hb hbox hg; have hnb10 := NB101_102.out; have hnc10 := NB102_101.out; have hcz11_0 : w9.cell? ⟨gb101, 0, none⟩ = some (.slice A0_0 l0_0.length c0_0) := (blk_cell BK101.out 0).trans rfl; have hcz11_1 : w9.cell? ⟨gb101, 1, none⟩ = some (.slice A0_1 l0_1.length c0_1) := (blk_cell BK101.out 1).trans rfl; have hcz11_2 : w9.cell? ⟨gb101, 2, none⟩ = some (.slice A0_2 l0_2.length c0_2) := (blk_cell BK101.out 2).trans rfl; have hcz11_3 : w9.cell? ⟨gb101, 3, none⟩ = some (.int .i64 a0_3) := (blk_cell BK101.out 3).trans rfl; have hcz11_4 : w9.cell? ⟨gb101, 4, none⟩ = some (.int .i64 a0_4) := (blk_cell BK101.out 4).trans rfl; have hcz11_5 : w9.cell? ⟨gb101, 5, none⟩ = some (.int .i64 a0_5) := (blk_cell BK101.out 5).trans rfl; have hfz11_0 := blk_frozen BK101.out 0; have hfz11_1 := blk_frozen BK101.out 1; have hfz11_2 := blk_frozen BK101.out 2; have hfz11_3 := blk_frozen BK101.out 3; have hfz11_4 := blk_frozen BK101.out 4; have hfz11_5 := blk_frozen BK101.out 5) | ((with_reducible refine gate_callee (f := 61) rfl ?_); refine goesL_ (some 13) rfl rfl Try.func61 (by kernel_rfl) rfl #[.agg #[.slice A0_0 l0_0.length c0_0, .slice A0_1 l0_1.length c0_1, .slice A0_2 l0_2.length c0_2, .int .i64 a0_3, .int .i64 a0_4, .int .i64 a0_5], .slice A1 l1.length c1] rfl (by (try simp only [List.map_toArray, List.map_cons, List.map_nil]); first | done | rfl | (simp only [List.length_drop, List.length_take]; rfl)) ?_; (with_reducible refine (bridge_both.calls k _ _ l0_0 _ _ l0_1 _ _ l0_2 a0_3 a0_4 a0_5 _ _ l1 t103 _ ?side1 ?side2 ?side3 ?side4 ?side5 ?side6 ?side7 ?side8 A4.out).mono ?_); (case side1 => repeat (first | exact (Kd.C_below HR0_0.out HB.out) | (with_reducible refine Kd.C_alloc ?_ _) | (with_reducible refine Kd.C_drewN ?_ _) | (with_reducible refine Kd.C_drew ?_))); (case side2 => exact HC0_0.out); (case side3 => repeat (first | exact (Kd.C_below HR0_1.out HB.out) | (with_reducible refine Kd.C_alloc ?_ _) | (with_reducible refine Kd.C_drewN ?_ _) | (with_reducible refine Kd.C_drew ?_))); (case side4 => exact HC0_1.out); (case side5 => repeat (first | exact (Kd.C_below HR0_2.out HB.out) | (with_reducible refine Kd.C_alloc ?_ _) | (with_reducible refine Kd.C_drewN ?_ _) | (with_reducible refine Kd.C_drew ?_))); (case side6 => exact HC0_2.out); (case side7 => repeat (first | exact (Kd.C_below HR1.out HB.out) | (with_reducible refine Kd.C_alloc ?_ _) | (with_reducible refine Kd.C_drewN ?_ _) | (with_reducible refine Kd.C_drew ?_))); (case side8 => exact HC1.out); rintro e w12 ⟨rfl, hb⟩; refine ⟨_, rfl, ?_⟩; have n0_ := Aside0.mk (blk_below (g := gb101) (o := .cells #[.slice A0_0 l0_0.length c0_0, .slice A0_1 l0_1.length c0_1, .slice A0_2 l0_2.length c0_2, .int .i64 a0_3, .int .i64 a0_4, .int .i64 a0_5] 24 (0, 0)) (by (with_reducible repeat (first | refine blk_drewN ?_ _ | refine blk_drew ?_ | refine blk_alloc ?_ _)); exact BK101.out) hb); have n1_ := Aside0.mk (blk_below (g := gb102) (o := .cells #[.int .i64 0, .int .i64 0, .int .i64 0, .int .i64 0] 29 (0, 0)) (by (with_reducible repeat (first | refine blk_drewN ?_ _ | refine blk_drew ?_ | refine blk_alloc ?_ _)); exact BK102.out) hb); have n2_ := Aside0.mk (below_step (by repeat (first | (with_reducible first | exact HB.out | apply below_alloc | apply pw_below_drewN | apply below_drew1 | refine below_set ?_ GE101.out | refine below_set ?_ GE102.out) | exact HB.out)) hb); clear BK101; clear BK102; clear HB; have BK101 := n0_; have BK102 := n1_; have HB := n2_; clear n0_ n1_ n2_; (try clear hb); (try clear hb2); (try clear hk); (try clear hi); have hcz13_0 : w12.cell? ⟨gb101, 0, none⟩ = some (.slice A0_0 l0_0.length c0_0) := (blk_cell BK101.out 0).trans rfl; have hcz13_1 : w12.cell? ⟨gb101, 1, none⟩ = some (.slice A0_1 l0_1.length c0_1) := (blk_cell BK101.out 1).trans rfl; have hcz13_2 : w12.cell? ⟨gb101, 2, none⟩ = some (.slice A0_2 l0_2.length c0_2) := (blk_cell BK101.out 2).trans rfl; have hcz13_3 : w12.cell? ⟨gb101, 3, none⟩ = some (.int .i64 a0_3) := (blk_cell BK101.out 3).trans rfl; have hcz13_4 : w12.cell? ⟨gb101, 4, none⟩ = some (.int .i64 a0_4) := (blk_cell BK101.out 4).trans rfl; have hcz13_5 : w12.cell? ⟨gb101, 5, none⟩ = some (.int .i64 a0_5) := (blk_cell BK101.out 5).trans rfl; have hfz13_0 := blk_frozen BK101.out 0; have hfz13_1 := blk_frozen BK101.out 1; have hfz13_2 := blk_frozen BK101.out 2; have hfz13_3 := blk_frozen BK101.out 3; have hfz13_4 := blk_frozen BK101.out 4; have hfz13_5 := blk_frozen BK101.out 5) | ((with_reducible refine gate_callee (f := 62) rfl ?_); refine goesL_ (some 22) rfl rfl Try.func62 (by kernel_rfl) rfl #[.agg #[.slice A0_0 l0_0.length c0_0, .slice A0_1 l0_1.length c0_1, .slice A0_2 l0_2.length c0_2, .int .i64 a0_3, .int .i64 a0_4, .int .i64 a0_5], .slice A1 l1.length c1, .bool a2] rfl (by (try simp only [List.map_toArray, List.map_cons, List.map_nil]); first | done | rfl | (simp only [List.length_drop, List.length_take]; rfl)) ?_; (with_reducible refine (bridge_bears.calls _ _ l0_0 _ _ l0_1 _ _ l0_2 a0_3 a0_4 a0_5 _ _ l1 a2 t104 t105 t106 t107 true _ ?side1 ?side2 ?side3 ?side4 ?side5 ?side6 ?side7 ?side8 A6.out).mono ?_); (case side1 => repeat (first | exact (Kd.C_below HR0_0.out HB.out) | (with_reducible refine Kd.C_alloc ?_ _) | (with_reducible refine Kd.C_drewN ?_ _) | (with_reducible refine Kd.C_drew ?_))); (case side2 => exact HC0_0.out); (case side3 => repeat (first | exact (Kd.C_below HR0_1.out HB.out) | (with_reducible refine Kd.C_alloc ?_ _) | (with_reducible refine Kd.C_drewN ?_ _) | (with_reducible refine Kd.C_drew ?_))); (case side4 => exact HC0_1.out); (case side5 => repeat (first | exact (Kd.C_below HR0_2.out HB.out) | (with_reducible refine Kd.C_alloc ?_ _) | (with_reducible refine Kd.C_drewN ?_ _) | (with_reducible refine Kd.C_drew ?_))); (case side6 => exact HC0_2.out); (case side7 => repeat (first | exact (Kd.C_below HR1.out HB.out) | (with_reducible refine Kd.C_alloc ?_ _) | (with_reducible refine Kd.C_drewN ?_ _) | (with_reducible refine Kd.C_drew ?_))); (case side8 => exact HC1.out); rintro e w14 ⟨rfl, hb⟩; refine ⟨_, rfl, ?_⟩; have n0_ := Aside0.mk (blk_below (g := gb101) (o := .cells #[.slice A0_0 l0_0.length c0_0, .slice A0_1 l0_1.length c0_1, .slice A0_2 l0_2.length c0_2, .int .i64 a0_3, .int .i64 a0_4, .int .i64 a0_5] 24 (0, 0)) (by (with_reducible repeat (first | refine blk_drewN ?_ _ | refine blk_drew ?_ | refine blk_alloc ?_ _)); exact BK101.out) hb); have n1_ := Aside0.mk (blk_below (g := gb102) (o := .cells #[.int .i64 0, .int .i64 0, .int .i64 0, .int .i64 0] 29 (0, 0)) (by (with_reducible repeat (first | refine blk_drewN ?_ _ | refine blk_drew ?_ | refine blk_alloc ?_ _)); exact BK102.out) hb); have n2_ := Aside0.mk (below_step (by repeat (first | (with_reducible first | exact HB.out | apply below_alloc | apply pw_below_drewN | apply below_drew1 | refine below_set ?_ GE101.out | refine below_set ?_ GE102.out) | exact HB.out)) hb); clear BK101; clear BK102; clear HB; have BK101 := n0_; have BK102 := n1_; have HB := n2_; clear n0_ n1_ n2_; (try clear hb); (try clear hb2); (try clear hk); (try clear hi)) | ((with_reducible refine gate_dst (N := 9) rfl ?_); refine box_event ?hg (N := 9) ?hd (cs := #[.int .i64 0, .int .i64 0, .int .i64 0, .int .i64 0]) (t := 29) ?hr ?_; (case hd => rfl); (case hg => rfl); (case hr => first | (go_simp; done) | (go_simp; rfl)); intro gb109 hg w15 hbox hb; have n0_ := Aside0.mk (blk_below (g := gb101) (o := .cells #[.slice A0_0 l0_0.length c0_0, .slice A0_1 l0_1.length c0_1, .slice A0_2 l0_2.length c0_2, .int .i64 a0_3, .int .i64 a0_4, .int .i64 a0_5] 24 (0, 0)) (by (with_reducible repeat (first | refine blk_drewN ?_ _ | refine blk_drew ?_ | refine blk_alloc ?_ _)); exact BK101.out) hb); have n1_ := Aside0.mk (blk_below (g := gb102) (o := .cells #[.int .i64 0, .int .i64 0, .int .i64 0, .int .i64 0] 29 (0, 0)) (by (with_reducible repeat (first | refine blk_drewN ?_ _ | refine blk_drew ?_ | refine blk_alloc ?_ _)); exact BK102.out) hb); have n2_ := Aside0.mk (below_step (by repeat (first | (with_reducible first | exact HB.out | apply below_alloc | apply pw_below_drewN | apply below_drew1 | refine below_set ?_ GE101.out | refine below_set ?_ GE102.out) | exact HB.out)) hb); have n3_ := Aside0.mk (hbox); have n4_ := Aside0.mk ((by rw [hg]; exact (below_size (by repeat (first | (with_reducible first | exact HB.out | apply below_alloc | apply pw_below_drewN | apply below_drew1 | refine below_set ?_ GE101.out | refine below_set ?_ GE102.out) | exact HB.out))) : w.heap.size ≤ gb109)); have n5_ := Aside0.mk ((by rw [hg]; exact (below_size (by repeat (first | (with_reducible first | exact HB.out | apply below_alloc | apply pw_below_drewN | apply below_drew1 | refine below_set ?_ GE101.out | refine below_set ?_ GE102.out) | exact HB.out))) : w.heap.size ≤ gb109)); have n6_ := Aside0.mk ((by rw [hg]; exact Nat.ne_of_lt (blk_lt (g := gb101) (o := .cells #[.slice A0_0 l0_0.length c0_0, .slice A0_1 l0_1.length c0_1, .slice A0_2 l0_2.length c0_2, .int .i64 a0_3, .int .i64 a0_4, .int .i64 a0_5] 24 (0, 0)) (by (with_reducible repeat (first | refine blk_drewN ?_ _ | refine blk_drew ?_ | refine blk_alloc ?_ _)); exact BK101.out)) : gb101 ≠ gb109)); have n7_ := Aside0.mk ((by rw [hg]; exact Nat.ne_of_gt (blk_lt (g := gb101) (o := .cells #[.slice A0_0 l0_0.length c0_0, .slice A0_1 l0_1.length c0_1, .slice A0_2 l0_2.length c0_2, .int .i64 a0_3, .int .i64 a0_4, .int .i64 a0_5] 24 (0, 0)) (by (with_reducible repeat (first | refine blk_drewN ?_ _ | refine blk_drew ?_ | refine blk_alloc ?_ _)); exact BK101.out)) : gb109 ≠ gb101)); have n8_ := Aside0.mk ((by rw [hg]; exact Nat.ne_of_lt (blk_lt (g := gb102) (o := .cells #[.int .i64 0, .int .i64 0, .int .i64 0, .int .i64 0] 29 (0, 0)) (by (with_reducible repeat (first | refine blk_drewN ?_ _ | refine blk_drew ?_ | refine blk_alloc ?_ _)); exact BK102.out)) : gb102 ≠ gb109)); have n9_ := Aside0.mk ((by rw [hg]; exact Nat.ne_of_gt (blk_lt (g := gb102) (o := .cells #[.int .i64 0, .int .i64 0, .int .i64 0, .int .i64 0] 29 (0, 0)) (by (with_reducible repeat (first | refine blk_drewN ?_ _ | refine blk_drew ?_ | refine blk_alloc ?_ _)); exact BK102.out)) : gb109 ≠ gb102)); clear BK101; clear BK102; clear HB; have BK101 := n0_; have BK102 := n1_; have HB := n2_; have BK109 := n3_; have GW109 := n4_; have GE109 := n5_; have NB101_109 := n6_; have NB109_101 := n7_; have NB102_109 := n8_; have NB109_102 := n9_; clear n0_ n1_ n2_ n3_ n4_ n5_ n6_ n7_ n8_ n9_; clear hb hbox hg; have hnb16 := NB109_101.out; have hnc16 := NB101_109.out; have hnb17 := NB109_102.out; have hnc17 := NB102_109.out; have hcz18_0 : w15.cell? ⟨gb109, 0, none⟩ = some (.int .i64 0) := (blk_cell BK109.out 0).trans rfl; have hcz18_1 : w15.cell? ⟨gb109, 1, none⟩ = some (.int .i64 0) := (blk_cell BK109.out 1).trans rfl; have hcz18_2 : w15.cell? ⟨gb109, 2, none⟩ = some (.int .i64 0) := (blk_cell BK109.out 2).trans rfl; have hcz18_3 : w15.cell? ⟨gb109, 3, none⟩ = some (.int .i64 0) := (blk_cell BK109.out 3).trans rfl; have hfz18_0 := blk_frozen BK109.out 0; have hfz18_1 := blk_frozen BK109.out 1; have hfz18_2 := blk_frozen BK109.out 2; have hfz18_3 := blk_frozen BK109.out 3; have hcz19_0 : w15.cell? ⟨gb102, 0, none⟩ = some (.int .i64 0) := (blk_cell BK102.out 0).trans rfl; have hcz19_1 : w15.cell? ⟨gb102, 1, none⟩ = some (.int .i64 0) := (blk_cell BK102.out 1).trans rfl; have hcz19_2 : w15.cell? ⟨gb102, 2, none⟩ = some (.int .i64 0) := (blk_cell BK102.out 2).trans rfl; have hcz19_3 : w15.cell? ⟨gb102, 3, none⟩ = some (.int .i64 0) := (blk_cell BK102.out 3).trans rfl; have hfz19_0 := blk_frozen BK102.out 0; have hfz19_1 := blk_frozen BK102.out 1; have hfz19_2 := blk_frozen BK102.out 2; have hfz19_3 := blk_frozen BK102.out 3))
   refine bodyPost_ret (results_ct rfl _ _ gb102 29 #[.int .i64 t104, .int .i64 t105, .int .i64 t106, .int .i64 t107] (0, 0) _ rfl (by (with_reducible repeat (first | refine blk_drewN ?_ _ | refine blk_drew ?_ | refine blk_alloc ?_ _)); refine blk_put (cs := #[.int .i64 t104, .int .i64 t105, .int .i64 t106, .int .i64 0]) ?_ 3 _ rfl; (with_reducible repeat (first | refine blk_drewN ?_ _ | refine blk_drew ?_ | refine blk_alloc ?_ _)); refine blk_put (cs := #[.int .i64 t104, .int .i64 t105, .int .i64 0, .int .i64 0]) ?_ 2 _ rfl; (with_reducible repeat (first | refine blk_drewN ?_ _ | refine blk_drew ?_ | refine blk_alloc ?_ _)); refine blk_put (cs := #[.int .i64 t104, .int .i64 0, .int .i64 0, .int .i64 0]) ?_ 1 _ rfl; (with_reducible repeat (first | refine blk_drewN ?_ _ | refine blk_drew ?_ | refine blk_alloc ?_ _)); refine blk_put (cs := #[.int .i64 0, .int .i64 0, .int .i64 0, .int .i64 0]) ?_ 0 _ rfl; (with_reducible repeat (first | refine blk_drewN ?_ _ | refine blk_drew ?_ | refine blk_alloc ?_ _)); refine blk_far ?_ NB102_109.out _; (with_reducible repeat (first | refine blk_drewN ?_ _ | refine blk_drew ?_ | refine blk_alloc ?_ _)); refine blk_far ?_ NB102_109.out _; (with_reducible repeat (first | refine blk_drewN ?_ _ | refine blk_drew ?_ | refine blk_alloc ?_ _)); refine blk_far ?_ NB102_109.out _; (with_reducible repeat (first | refine blk_drewN ?_ _ | refine blk_drew ?_ | refine blk_alloc ?_ _)); refine blk_far ?_ NB102_109.out _; (with_reducible repeat (first | refine blk_drewN ?_ _ | refine blk_drew ?_ | refine blk_alloc ?_ _)); exact BK102.out) Try.underlying29 rfl (by kernel_rfl)) rfl ?_
   exact ⟨by first | rfl | (simp [errW_none, errW_some] <;> rfl) | (simp [*, errW_none, errW_some] <;> rfl), by repeat (first | (with_reducible first | exact HB.out | apply below_alloc | apply pw_below_drewN | apply below_drew1 | refine below_set ?_ GE101.out | refine below_set ?_ GE102.out | refine below_set ?_ GE109.out) | exact HB.out)⟩
  ·replace c7 := Bool.eq_false_iff.mpr c7
   subst c7
   have H1 : (some (0, 0, 0, 0, 0)) = some (r1, r2, r3, r4, r5) := by rw [if_neg (show ¬ (false = true) by decide)] at H; exact H
   clear H
   have H := H1
   clear H1
   simp only [Option.some.injEq, Prod.mk.injEq] at H
   obtain ⟨rfl, rfl, rfl, rfl, rfl⟩ := H
   go_enter Try.func27, Try.ntmps27
   go_wp2_with (first | ((with_reducible refine gate_dst (N := 3) rfl ?_); refine box_event ?hg (N := 3) ?hd (cs := #[.slice A0_0 l0_0.length c0_0, .slice A0_1 l0_1.length c0_1, .slice A0_2 l0_2.length c0_2, .int .i64 a0_3, .int .i64 a0_4, .int .i64 a0_5]) (t := 24) ?hr ?_; (case hd => rfl); (case hg => rfl); (case hr => first | (go_simp; done) | (go_simp; rfl)); intro gb101 hg w20 hbox hb; have n0_ := Aside0.mk (below_step (by repeat (first | (with_reducible first | exact HB.out | apply below_alloc | apply pw_below_drewN | apply below_drew1) | exact HB.out)) hb); have n1_ := Aside0.mk (hbox); have n2_ := Aside0.mk ((by rw [hg]; exact (below_size (by repeat (first | (with_reducible first | exact HB.out | apply below_alloc | apply pw_below_drewN | apply below_drew1) | exact HB.out))) : w.heap.size ≤ gb101)); have n3_ := Aside0.mk ((by rw [hg]; exact (below_size (by repeat (first | (with_reducible first | exact HB.out | apply below_alloc | apply pw_below_drewN | apply below_drew1) | exact HB.out))) : w.heap.size ≤ gb101)); clear HB; have HB := n0_; have BK101 := n1_; have GW101 := n2_; have GE101 := n3_; clear n0_ n1_ n2_ n3_; clear hb hbox hg) | ((with_reducible refine gate_dst (N := 6) rfl ?_); refine box_event ?hg (N := 6) ?hd (cs := #[.int .i64 0, .int .i64 0, .int .i64 0, .int .i64 0]) (t := 29) ?hr ?_; (case hd => rfl); (case hg => rfl); (case hr => first | (go_simp; done) | (go_simp; rfl)); intro gb102 hg w21 hbox hb; have n0_ := Aside0.mk (blk_below (g := gb101) (o := .cells #[.slice A0_0 l0_0.length c0_0, .slice A0_1 l0_1.length c0_1, .slice A0_2 l0_2.length c0_2, .int .i64 a0_3, .int .i64 a0_4, .int .i64 a0_5] 24 (0, 0)) (by (with_reducible repeat (first | refine blk_drewN ?_ _ | refine blk_drew ?_ | refine blk_alloc ?_ _)); exact BK101.out) hb); have n1_ := Aside0.mk (below_step (by repeat (first | (with_reducible first | exact HB.out | apply below_alloc | apply pw_below_drewN | apply below_drew1 | refine below_set ?_ GE101.out) | exact HB.out)) hb); have n2_ := Aside0.mk (hbox); have n3_ := Aside0.mk ((by rw [hg]; exact (below_size (by repeat (first | (with_reducible first | exact HB.out | apply below_alloc | apply pw_below_drewN | apply below_drew1 | refine below_set ?_ GE101.out) | exact HB.out))) : w.heap.size ≤ gb102)); have n4_ := Aside0.mk ((by rw [hg]; exact (below_size (by repeat (first | (with_reducible first | exact HB.out | apply below_alloc | apply pw_below_drewN | apply below_drew1 | refine below_set ?_ GE101.out) | exact HB.out))) : w.heap.size ≤ gb102)); have n5_ := Aside0.mk ((by rw [hg]; exact Nat.ne_of_lt (blk_lt (g := gb101) (o := .cells #[.slice A0_0 l0_0.length c0_0, .slice A0_1 l0_1.length c0_1, .slice A0_2 l0_2.length c0_2, .int .i64 a0_3, .int .i64 a0_4, .int .i64 a0_5] 24 (0, 0)) (by (with_reducible repeat (first | refine blk_drewN ?_ _ | refine blk_drew ?_ | refine blk_alloc ?_ _)); exact BK101.out)) : gb101 ≠ gb102)); have n6_ := Aside0.mk ((by rw [hg]; exact Nat.ne_of_gt (blk_lt (g := gb101) (o := .cells #[.slice A0_0 l0_0.length c0_0, .slice A0_1 l0_1.length c0_1, .slice A0_2 l0_2.length c0_2, .int .i64 a0_3, .int .i64 a0_4, .int .i64 a0_5] 24 (0, 0)) (by (with_reducible repeat (first | refine blk_drewN ?_ _ | refine blk_drew ?_ | refine blk_alloc ?_ _)); exact BK101.out)) : gb102 ≠ gb101)); clear BK101; clear HB; have BK101 := n0_; have HB := n1_; have BK102 := n2_; have GW102 := n3_; have GE102 := n4_; have NB101_102 := n5_; have NB102_101 := n6_; clear n0_ n1_ n2_ n3_ n4_ n5_ n6_; clear hb hbox hg; have hnb22 := NB101_102.out; have hnc22 := NB102_101.out; have hcz23_0 : w21.cell? ⟨gb101, 0, none⟩ = some (.slice A0_0 l0_0.length c0_0) := (blk_cell BK101.out 0).trans rfl; have hcz23_1 : w21.cell? ⟨gb101, 1, none⟩ = some (.slice A0_1 l0_1.length c0_1) := (blk_cell BK101.out 1).trans rfl; have hcz23_2 : w21.cell? ⟨gb101, 2, none⟩ = some (.slice A0_2 l0_2.length c0_2) := (blk_cell BK101.out 2).trans rfl; have hcz23_3 : w21.cell? ⟨gb101, 3, none⟩ = some (.int .i64 a0_3) := (blk_cell BK101.out 3).trans rfl; have hcz23_4 : w21.cell? ⟨gb101, 4, none⟩ = some (.int .i64 a0_4) := (blk_cell BK101.out 4).trans rfl; have hcz23_5 : w21.cell? ⟨gb101, 5, none⟩ = some (.int .i64 a0_5) := (blk_cell BK101.out 5).trans rfl; have hfz23_0 := blk_frozen BK101.out 0; have hfz23_1 := blk_frozen BK101.out 1; have hfz23_2 := blk_frozen BK101.out 2; have hfz23_3 := blk_frozen BK101.out 3; have hfz23_4 := blk_frozen BK101.out 4; have hfz23_5 := blk_frozen BK101.out 5) | ((with_reducible refine gate_callee (f := 61) rfl ?_); refine goesL_ (some 13) rfl rfl Try.func61 (by kernel_rfl) rfl #[.agg #[.slice A0_0 l0_0.length c0_0, .slice A0_1 l0_1.length c0_1, .slice A0_2 l0_2.length c0_2, .int .i64 a0_3, .int .i64 a0_4, .int .i64 a0_5], .slice A1 l1.length c1] rfl (by (try simp only [List.map_toArray, List.map_cons, List.map_nil]); first | done | rfl | (simp only [List.length_drop, List.length_take]; rfl)) ?_; (with_reducible refine (bridge_both.calls k _ _ l0_0 _ _ l0_1 _ _ l0_2 a0_3 a0_4 a0_5 _ _ l1 t103 _ ?side1 ?side2 ?side3 ?side4 ?side5 ?side6 ?side7 ?side8 A4.out).mono ?_); (case side1 => repeat (first | exact (Kd.C_below HR0_0.out HB.out) | (with_reducible refine Kd.C_alloc ?_ _) | (with_reducible refine Kd.C_drewN ?_ _) | (with_reducible refine Kd.C_drew ?_))); (case side2 => exact HC0_0.out); (case side3 => repeat (first | exact (Kd.C_below HR0_1.out HB.out) | (with_reducible refine Kd.C_alloc ?_ _) | (with_reducible refine Kd.C_drewN ?_ _) | (with_reducible refine Kd.C_drew ?_))); (case side4 => exact HC0_1.out); (case side5 => repeat (first | exact (Kd.C_below HR0_2.out HB.out) | (with_reducible refine Kd.C_alloc ?_ _) | (with_reducible refine Kd.C_drewN ?_ _) | (with_reducible refine Kd.C_drew ?_))); (case side6 => exact HC0_2.out); (case side7 => repeat (first | exact (Kd.C_below HR1.out HB.out) | (with_reducible refine Kd.C_alloc ?_ _) | (with_reducible refine Kd.C_drewN ?_ _) | (with_reducible refine Kd.C_drew ?_))); (case side8 => exact HC1.out); rintro e w24 ⟨rfl, hb⟩; refine ⟨_, rfl, ?_⟩; have n0_ := Aside0.mk (blk_below (g := gb101) (o := .cells #[.slice A0_0 l0_0.length c0_0, .slice A0_1 l0_1.length c0_1, .slice A0_2 l0_2.length c0_2, .int .i64 a0_3, .int .i64 a0_4, .int .i64 a0_5] 24 (0, 0)) (by (with_reducible repeat (first | refine blk_drewN ?_ _ | refine blk_drew ?_ | refine blk_alloc ?_ _)); exact BK101.out) hb); have n1_ := Aside0.mk (blk_below (g := gb102) (o := .cells #[.int .i64 0, .int .i64 0, .int .i64 0, .int .i64 0] 29 (0, 0)) (by (with_reducible repeat (first | refine blk_drewN ?_ _ | refine blk_drew ?_ | refine blk_alloc ?_ _)); exact BK102.out) hb); have n2_ := Aside0.mk (below_step (by repeat (first | (with_reducible first | exact HB.out | apply below_alloc | apply pw_below_drewN | apply below_drew1 | refine below_set ?_ GE101.out | refine below_set ?_ GE102.out) | exact HB.out)) hb); clear BK101; clear BK102; clear HB; have BK101 := n0_; have BK102 := n1_; have HB := n2_; clear n0_ n1_ n2_; (try clear hb); (try clear hb2); (try clear hk); (try clear hi); have hcz25_0 : w24.cell? ⟨gb101, 0, none⟩ = some (.slice A0_0 l0_0.length c0_0) := (blk_cell BK101.out 0).trans rfl; have hcz25_1 : w24.cell? ⟨gb101, 1, none⟩ = some (.slice A0_1 l0_1.length c0_1) := (blk_cell BK101.out 1).trans rfl; have hcz25_2 : w24.cell? ⟨gb101, 2, none⟩ = some (.slice A0_2 l0_2.length c0_2) := (blk_cell BK101.out 2).trans rfl; have hcz25_3 : w24.cell? ⟨gb101, 3, none⟩ = some (.int .i64 a0_3) := (blk_cell BK101.out 3).trans rfl; have hcz25_4 : w24.cell? ⟨gb101, 4, none⟩ = some (.int .i64 a0_4) := (blk_cell BK101.out 4).trans rfl; have hcz25_5 : w24.cell? ⟨gb101, 5, none⟩ = some (.int .i64 a0_5) := (blk_cell BK101.out 5).trans rfl; have hfz25_0 := blk_frozen BK101.out 0; have hfz25_1 := blk_frozen BK101.out 1; have hfz25_2 := blk_frozen BK101.out 2; have hfz25_3 := blk_frozen BK101.out 3; have hfz25_4 := blk_frozen BK101.out 4; have hfz25_5 := blk_frozen BK101.out 5) | ((with_reducible refine gate_callee (f := 62) rfl ?_); refine goesL_ (some 22) rfl rfl Try.func62 (by kernel_rfl) rfl #[.agg #[.slice A0_0 l0_0.length c0_0, .slice A0_1 l0_1.length c0_1, .slice A0_2 l0_2.length c0_2, .int .i64 a0_3, .int .i64 a0_4, .int .i64 a0_5], .slice A1 l1.length c1, .bool a2] rfl (by (try simp only [List.map_toArray, List.map_cons, List.map_nil]); first | done | rfl | (simp only [List.length_drop, List.length_take]; rfl)) ?_; (with_reducible refine (bridge_bears.calls _ _ l0_0 _ _ l0_1 _ _ l0_2 a0_3 a0_4 a0_5 _ _ l1 a2 t104 t105 t106 t107 false _ ?side1 ?side2 ?side3 ?side4 ?side5 ?side6 ?side7 ?side8 A6.out).mono ?_); (case side1 => repeat (first | exact (Kd.C_below HR0_0.out HB.out) | (with_reducible refine Kd.C_alloc ?_ _) | (with_reducible refine Kd.C_drewN ?_ _) | (with_reducible refine Kd.C_drew ?_))); (case side2 => exact HC0_0.out); (case side3 => repeat (first | exact (Kd.C_below HR0_1.out HB.out) | (with_reducible refine Kd.C_alloc ?_ _) | (with_reducible refine Kd.C_drewN ?_ _) | (with_reducible refine Kd.C_drew ?_))); (case side4 => exact HC0_1.out); (case side5 => repeat (first | exact (Kd.C_below HR0_2.out HB.out) | (with_reducible refine Kd.C_alloc ?_ _) | (with_reducible refine Kd.C_drewN ?_ _) | (with_reducible refine Kd.C_drew ?_))); (case side6 => exact HC0_2.out); (case side7 => repeat (first | exact (Kd.C_below HR1.out HB.out) | (with_reducible refine Kd.C_alloc ?_ _) | (with_reducible refine Kd.C_drewN ?_ _) | (with_reducible refine Kd.C_drew ?_))); (case side8 => exact HC1.out); rintro e w26 ⟨rfl, hb⟩; refine ⟨_, rfl, ?_⟩; have n0_ := Aside0.mk (blk_below (g := gb101) (o := .cells #[.slice A0_0 l0_0.length c0_0, .slice A0_1 l0_1.length c0_1, .slice A0_2 l0_2.length c0_2, .int .i64 a0_3, .int .i64 a0_4, .int .i64 a0_5] 24 (0, 0)) (by (with_reducible repeat (first | refine blk_drewN ?_ _ | refine blk_drew ?_ | refine blk_alloc ?_ _)); exact BK101.out) hb); have n1_ := Aside0.mk (blk_below (g := gb102) (o := .cells #[.int .i64 0, .int .i64 0, .int .i64 0, .int .i64 0] 29 (0, 0)) (by (with_reducible repeat (first | refine blk_drewN ?_ _ | refine blk_drew ?_ | refine blk_alloc ?_ _)); exact BK102.out) hb); have n2_ := Aside0.mk (below_step (by repeat (first | (with_reducible first | exact HB.out | apply below_alloc | apply pw_below_drewN | apply below_drew1 | refine below_set ?_ GE101.out | refine below_set ?_ GE102.out) | exact HB.out)) hb); clear BK101; clear BK102; clear HB; have BK101 := n0_; have BK102 := n1_; have HB := n2_; clear n0_ n1_ n2_; (try clear hb); (try clear hb2); (try clear hk); (try clear hi)) | ((with_reducible refine gate_dst (N := 9) rfl ?_); refine box_event ?hg (N := 9) ?hd (cs := #[.int .i64 0, .int .i64 0, .int .i64 0, .int .i64 0]) (t := 29) ?hr ?_; (case hd => rfl); (case hg => rfl); (case hr => first | (go_simp; done) | (go_simp; rfl)); intro gb109 hg w27 hbox hb; have n0_ := Aside0.mk (blk_below (g := gb101) (o := .cells #[.slice A0_0 l0_0.length c0_0, .slice A0_1 l0_1.length c0_1, .slice A0_2 l0_2.length c0_2, .int .i64 a0_3, .int .i64 a0_4, .int .i64 a0_5] 24 (0, 0)) (by (with_reducible repeat (first | refine blk_drewN ?_ _ | refine blk_drew ?_ | refine blk_alloc ?_ _)); exact BK101.out) hb); have n1_ := Aside0.mk (blk_below (g := gb102) (o := .cells #[.int .i64 0, .int .i64 0, .int .i64 0, .int .i64 0] 29 (0, 0)) (by (with_reducible repeat (first | refine blk_drewN ?_ _ | refine blk_drew ?_ | refine blk_alloc ?_ _)); exact BK102.out) hb); have n2_ := Aside0.mk (below_step (by repeat (first | (with_reducible first | exact HB.out | apply below_alloc | apply pw_below_drewN | apply below_drew1 | refine below_set ?_ GE101.out | refine below_set ?_ GE102.out) | exact HB.out)) hb); have n3_ := Aside0.mk (hbox); have n4_ := Aside0.mk ((by rw [hg]; exact (below_size (by repeat (first | (with_reducible first | exact HB.out | apply below_alloc | apply pw_below_drewN | apply below_drew1 | refine below_set ?_ GE101.out | refine below_set ?_ GE102.out) | exact HB.out))) : w.heap.size ≤ gb109)); have n5_ := Aside0.mk ((by rw [hg]; exact (below_size (by repeat (first | (with_reducible first | exact HB.out | apply below_alloc | apply pw_below_drewN | apply below_drew1 | refine below_set ?_ GE101.out | refine below_set ?_ GE102.out) | exact HB.out))) : w.heap.size ≤ gb109)); have n6_ := Aside0.mk ((by rw [hg]; exact Nat.ne_of_lt (blk_lt (g := gb101) (o := .cells #[.slice A0_0 l0_0.length c0_0, .slice A0_1 l0_1.length c0_1, .slice A0_2 l0_2.length c0_2, .int .i64 a0_3, .int .i64 a0_4, .int .i64 a0_5] 24 (0, 0)) (by (with_reducible repeat (first | refine blk_drewN ?_ _ | refine blk_drew ?_ | refine blk_alloc ?_ _)); exact BK101.out)) : gb101 ≠ gb109)); have n7_ := Aside0.mk ((by rw [hg]; exact Nat.ne_of_gt (blk_lt (g := gb101) (o := .cells #[.slice A0_0 l0_0.length c0_0, .slice A0_1 l0_1.length c0_1, .slice A0_2 l0_2.length c0_2, .int .i64 a0_3, .int .i64 a0_4, .int .i64 a0_5] 24 (0, 0)) (by (with_reducible repeat (first | refine blk_drewN ?_ _ | refine blk_drew ?_ | refine blk_alloc ?_ _)); exact BK101.out)) : gb109 ≠ gb101)); have n8_ := Aside0.mk ((by rw [hg]; exact Nat.ne_of_lt (blk_lt (g := gb102) (o := .cells #[.int .i64 0, .int .i64 0, .int .i64 0, .int .i64 0] 29 (0, 0)) (by (with_reducible repeat (first | refine blk_drewN ?_ _ | refine blk_drew ?_ | refine blk_alloc ?_ _)); exact BK102.out)) : gb102 ≠ gb109)); have n9_ := Aside0.mk ((by rw [hg]; exact Nat.ne_of_gt (blk_lt (g := gb102) (o := .cells #[.int .i64 0, .int .i64 0, .int .i64 0, .int .i64 0] 29 (0, 0)) (by (with_reducible repeat (first | refine blk_drewN ?_ _ | refine blk_drew ?_ | refine blk_alloc ?_ _)); exact BK102.out)) : gb109 ≠ gb102)); clear BK101; clear BK102; clear HB; have BK101 := n0_; have BK102 := n1_; have HB := n2_; have BK109 := n3_; have GW109 := n4_; have GE109 := n5_; have NB101_109 := n6_; have NB109_101 := n7_; have NB102_109 := n8_; have NB109_102 := n9_; clear n0_ n1_ n2_ n3_ n4_ n5_ n6_ n7_ n8_ n9_; clear hb hbox hg; have hnb28 := NB109_101.out; have hnc28 := NB101_109.out; have hnb29 := NB109_102.out; have hnc29 := NB102_109.out; have hcz30_0 : w27.cell? ⟨gb109, 0, none⟩ = some (.int .i64 0) := (blk_cell BK109.out 0).trans rfl; have hcz30_1 : w27.cell? ⟨gb109, 1, none⟩ = some (.int .i64 0) := (blk_cell BK109.out 1).trans rfl; have hcz30_2 : w27.cell? ⟨gb109, 2, none⟩ = some (.int .i64 0) := (blk_cell BK109.out 2).trans rfl; have hcz30_3 : w27.cell? ⟨gb109, 3, none⟩ = some (.int .i64 0) := (blk_cell BK109.out 3).trans rfl; have hfz30_0 := blk_frozen BK109.out 0; have hfz30_1 := blk_frozen BK109.out 1; have hfz30_2 := blk_frozen BK109.out 2; have hfz30_3 := blk_frozen BK109.out 3; have hcz31_0 : w27.cell? ⟨gb102, 0, none⟩ = some (.int .i64 0) := (blk_cell BK102.out 0).trans rfl; have hcz31_1 : w27.cell? ⟨gb102, 1, none⟩ = some (.int .i64 0) := (blk_cell BK102.out 1).trans rfl; have hcz31_2 : w27.cell? ⟨gb102, 2, none⟩ = some (.int .i64 0) := (blk_cell BK102.out 2).trans rfl; have hcz31_3 : w27.cell? ⟨gb102, 3, none⟩ = some (.int .i64 0) := (blk_cell BK102.out 3).trans rfl; have hfz31_0 := blk_frozen BK102.out 0; have hfz31_1 := blk_frozen BK102.out 1; have hfz31_2 := blk_frozen BK102.out 2; have hfz31_3 := blk_frozen BK102.out 3))
   refine bodyPost_ret (results_ct rfl _ _ gb102 29 #[.int .i64 0, .int .i64 0, .int .i64 0, .int .i64 0] (0, 0) _ rfl (by (with_reducible repeat (first | refine blk_drewN ?_ _ | refine blk_drew ?_ | refine blk_alloc ?_ _)); refine blk_put (cs := #[.int .i64 0, .int .i64 0, .int .i64 0, .int .i64 0]) ?_ 3 _ rfl; (with_reducible repeat (first | refine blk_drewN ?_ _ | refine blk_drew ?_ | refine blk_alloc ?_ _)); refine blk_put (cs := #[.int .i64 0, .int .i64 0, .int .i64 0, .int .i64 0]) ?_ 2 _ rfl; (with_reducible repeat (first | refine blk_drewN ?_ _ | refine blk_drew ?_ | refine blk_alloc ?_ _)); refine blk_put (cs := #[.int .i64 0, .int .i64 0, .int .i64 0, .int .i64 0]) ?_ 1 _ rfl; (with_reducible repeat (first | refine blk_drewN ?_ _ | refine blk_drew ?_ | refine blk_alloc ?_ _)); refine blk_put (cs := #[.int .i64 0, .int .i64 0, .int .i64 0, .int .i64 0]) ?_ 0 _ rfl; (with_reducible repeat (first | refine blk_drewN ?_ _ | refine blk_drew ?_ | refine blk_alloc ?_ _)); refine blk_far ?_ NB102_109.out _; (with_reducible repeat (first | refine blk_drewN ?_ _ | refine blk_drew ?_ | refine blk_alloc ?_ _)); refine blk_far ?_ NB102_109.out _; (with_reducible repeat (first | refine blk_drewN ?_ _ | refine blk_drew ?_ | refine blk_alloc ?_ _)); refine blk_far ?_ NB102_109.out _; (with_reducible repeat (first | refine blk_drewN ?_ _ | refine blk_drew ?_ | refine blk_alloc ?_ _)); refine blk_far ?_ NB102_109.out _; (with_reducible repeat (first | refine blk_drewN ?_ _ | refine blk_drew ?_ | refine blk_alloc ?_ _)); exact BK102.out) Try.underlying29 rfl (by kernel_rfl)) rfl ?_
   exact ⟨by first | rfl | (simp [errW_none, errW_some] <;> rfl) | (simp [*, errW_none, errW_some] <;> rfl), by repeat (first | (with_reducible first | exact HB.out | apply below_alloc | apply pw_below_drewN | apply below_drew1 | refine below_set ?_ GE101.out | refine below_set ?_ GE102.out | refine below_set ?_ GE109.out) | exact HB.out)⟩
 ·rw [if_neg c5] at H
  have c5b0 : (t103 == 0) = false := beq_eq_false_iff_ne.mpr c5
  have c5b1 : (t103 != 0) = true := bne_iff_ne.mpr c5
  simp only [Option.some.injEq, Prod.mk.injEq] at H
  obtain ⟨rfl, rfl, rfl, rfl, rfl⟩ := H
  go_enter Try.func27, Try.ntmps27
  go_wp2_with (first | ((with_reducible refine gate_dst (N := 3) rfl ?_); refine box_event ?hg (N := 3) ?hd (cs := #[.slice A0_0 l0_0.length c0_0, .slice A0_1 l0_1.length c0_1, .slice A0_2 l0_2.length c0_2, .int .i64 a0_3, .int .i64 a0_4, .int .i64 a0_5]) (t := 24) ?hr ?_; (case hd => rfl); (case hg => rfl); (case hr => first | (go_simp; done) | (go_simp; rfl)); intro gb101 hg w32 hbox hb; have n0_ := Aside0.mk (below_step (by repeat (first | (with_reducible first | exact HB.out | apply below_alloc | apply pw_below_drewN | apply below_drew1) | exact HB.out)) hb); have n1_ := Aside0.mk (hbox); have n2_ := Aside0.mk ((by rw [hg]; exact (below_size (by repeat (first | (with_reducible first | exact HB.out | apply below_alloc | apply pw_below_drewN | apply below_drew1) | exact HB.out))) : w.heap.size ≤ gb101)); have n3_ := Aside0.mk ((by rw [hg]; exact (below_size (by repeat (first | (with_reducible first | exact HB.out | apply below_alloc | apply pw_below_drewN | apply below_drew1) | exact HB.out))) : w.heap.size ≤ gb101)); clear HB; have HB := n0_; have BK101 := n1_; have GW101 := n2_; have GE101 := n3_; clear n0_ n1_ n2_ n3_; clear hb hbox hg) | ((with_reducible refine gate_dst (N := 6) rfl ?_); refine box_event ?hg (N := 6) ?hd (cs := #[.int .i64 0, .int .i64 0, .int .i64 0, .int .i64 0]) (t := 29) ?hr ?_; (case hd => rfl); (case hg => rfl); (case hr => first | (go_simp; done) | (go_simp; rfl)); intro gb102 hg w33 hbox hb; have n0_ := Aside0.mk (blk_below (g := gb101) (o := .cells #[.slice A0_0 l0_0.length c0_0, .slice A0_1 l0_1.length c0_1, .slice A0_2 l0_2.length c0_2, .int .i64 a0_3, .int .i64 a0_4, .int .i64 a0_5] 24 (0, 0)) (by (with_reducible repeat (first | refine blk_drewN ?_ _ | refine blk_drew ?_ | refine blk_alloc ?_ _)); exact BK101.out) hb); have n1_ := Aside0.mk (below_step (by repeat (first | (with_reducible first | exact HB.out | apply below_alloc | apply pw_below_drewN | apply below_drew1 | refine below_set ?_ GE101.out) | exact HB.out)) hb); have n2_ := Aside0.mk (hbox); have n3_ := Aside0.mk ((by rw [hg]; exact (below_size (by repeat (first | (with_reducible first | exact HB.out | apply below_alloc | apply pw_below_drewN | apply below_drew1 | refine below_set ?_ GE101.out) | exact HB.out))) : w.heap.size ≤ gb102)); have n4_ := Aside0.mk ((by rw [hg]; exact (below_size (by repeat (first | (with_reducible first | exact HB.out | apply below_alloc | apply pw_below_drewN | apply below_drew1 | refine below_set ?_ GE101.out) | exact HB.out))) : w.heap.size ≤ gb102)); have n5_ := Aside0.mk ((by rw [hg]; exact Nat.ne_of_lt (blk_lt (g := gb101) (o := .cells #[.slice A0_0 l0_0.length c0_0, .slice A0_1 l0_1.length c0_1, .slice A0_2 l0_2.length c0_2, .int .i64 a0_3, .int .i64 a0_4, .int .i64 a0_5] 24 (0, 0)) (by (with_reducible repeat (first | refine blk_drewN ?_ _ | refine blk_drew ?_ | refine blk_alloc ?_ _)); exact BK101.out)) : gb101 ≠ gb102)); have n6_ := Aside0.mk ((by rw [hg]; exact Nat.ne_of_gt (blk_lt (g := gb101) (o := .cells #[.slice A0_0 l0_0.length c0_0, .slice A0_1 l0_1.length c0_1, .slice A0_2 l0_2.length c0_2, .int .i64 a0_3, .int .i64 a0_4, .int .i64 a0_5] 24 (0, 0)) (by (with_reducible repeat (first | refine blk_drewN ?_ _ | refine blk_drew ?_ | refine blk_alloc ?_ _)); exact BK101.out)) : gb102 ≠ gb101)); clear BK101; clear HB; have BK101 := n0_; have HB := n1_; have BK102 := n2_; have GW102 := n3_; have GE102 := n4_; have NB101_102 := n5_; have NB102_101 := n6_; clear n0_ n1_ n2_ n3_ n4_ n5_ n6_; clear hb hbox hg; have hnb34 := NB101_102.out; have hnc34 := NB102_101.out; have hcz35_0 : w33.cell? ⟨gb101, 0, none⟩ = some (.slice A0_0 l0_0.length c0_0) := (blk_cell BK101.out 0).trans rfl; have hcz35_1 : w33.cell? ⟨gb101, 1, none⟩ = some (.slice A0_1 l0_1.length c0_1) := (blk_cell BK101.out 1).trans rfl; have hcz35_2 : w33.cell? ⟨gb101, 2, none⟩ = some (.slice A0_2 l0_2.length c0_2) := (blk_cell BK101.out 2).trans rfl; have hcz35_3 : w33.cell? ⟨gb101, 3, none⟩ = some (.int .i64 a0_3) := (blk_cell BK101.out 3).trans rfl; have hcz35_4 : w33.cell? ⟨gb101, 4, none⟩ = some (.int .i64 a0_4) := (blk_cell BK101.out 4).trans rfl; have hcz35_5 : w33.cell? ⟨gb101, 5, none⟩ = some (.int .i64 a0_5) := (blk_cell BK101.out 5).trans rfl; have hfz35_0 := blk_frozen BK101.out 0; have hfz35_1 := blk_frozen BK101.out 1; have hfz35_2 := blk_frozen BK101.out 2; have hfz35_3 := blk_frozen BK101.out 3; have hfz35_4 := blk_frozen BK101.out 4; have hfz35_5 := blk_frozen BK101.out 5) | ((with_reducible refine gate_callee (f := 61) rfl ?_); refine goesL_ (some 13) rfl rfl Try.func61 (by kernel_rfl) rfl #[.agg #[.slice A0_0 l0_0.length c0_0, .slice A0_1 l0_1.length c0_1, .slice A0_2 l0_2.length c0_2, .int .i64 a0_3, .int .i64 a0_4, .int .i64 a0_5], .slice A1 l1.length c1] rfl (by (try simp only [List.map_toArray, List.map_cons, List.map_nil]); first | done | rfl | (simp only [List.length_drop, List.length_take]; rfl)) ?_; (with_reducible refine (bridge_both.calls k _ _ l0_0 _ _ l0_1 _ _ l0_2 a0_3 a0_4 a0_5 _ _ l1 t103 _ ?side1 ?side2 ?side3 ?side4 ?side5 ?side6 ?side7 ?side8 A4.out).mono ?_); (case side1 => repeat (first | exact (Kd.C_below HR0_0.out HB.out) | (with_reducible refine Kd.C_alloc ?_ _) | (with_reducible refine Kd.C_drewN ?_ _) | (with_reducible refine Kd.C_drew ?_))); (case side2 => exact HC0_0.out); (case side3 => repeat (first | exact (Kd.C_below HR0_1.out HB.out) | (with_reducible refine Kd.C_alloc ?_ _) | (with_reducible refine Kd.C_drewN ?_ _) | (with_reducible refine Kd.C_drew ?_))); (case side4 => exact HC0_1.out); (case side5 => repeat (first | exact (Kd.C_below HR0_2.out HB.out) | (with_reducible refine Kd.C_alloc ?_ _) | (with_reducible refine Kd.C_drewN ?_ _) | (with_reducible refine Kd.C_drew ?_))); (case side6 => exact HC0_2.out); (case side7 => repeat (first | exact (Kd.C_below HR1.out HB.out) | (with_reducible refine Kd.C_alloc ?_ _) | (with_reducible refine Kd.C_drewN ?_ _) | (with_reducible refine Kd.C_drew ?_))); (case side8 => exact HC1.out); rintro e w36 ⟨rfl, hb⟩; refine ⟨_, rfl, ?_⟩; have n0_ := Aside0.mk (blk_below (g := gb101) (o := .cells #[.slice A0_0 l0_0.length c0_0, .slice A0_1 l0_1.length c0_1, .slice A0_2 l0_2.length c0_2, .int .i64 a0_3, .int .i64 a0_4, .int .i64 a0_5] 24 (0, 0)) (by (with_reducible repeat (first | refine blk_drewN ?_ _ | refine blk_drew ?_ | refine blk_alloc ?_ _)); exact BK101.out) hb); have n1_ := Aside0.mk (blk_below (g := gb102) (o := .cells #[.int .i64 0, .int .i64 0, .int .i64 0, .int .i64 0] 29 (0, 0)) (by (with_reducible repeat (first | refine blk_drewN ?_ _ | refine blk_drew ?_ | refine blk_alloc ?_ _)); exact BK102.out) hb); have n2_ := Aside0.mk (below_step (by repeat (first | (with_reducible first | exact HB.out | apply below_alloc | apply pw_below_drewN | apply below_drew1 | refine below_set ?_ GE101.out | refine below_set ?_ GE102.out) | exact HB.out)) hb); clear BK101; clear BK102; clear HB; have BK101 := n0_; have BK102 := n1_; have HB := n2_; clear n0_ n1_ n2_; (try clear hb); (try clear hb2); (try clear hk); (try clear hi); have hcz37_0 : w36.cell? ⟨gb102, 0, none⟩ = some (.int .i64 0) := (blk_cell BK102.out 0).trans rfl; have hcz37_1 : w36.cell? ⟨gb102, 1, none⟩ = some (.int .i64 0) := (blk_cell BK102.out 1).trans rfl; have hcz37_2 : w36.cell? ⟨gb102, 2, none⟩ = some (.int .i64 0) := (blk_cell BK102.out 2).trans rfl; have hcz37_3 : w36.cell? ⟨gb102, 3, none⟩ = some (.int .i64 0) := (blk_cell BK102.out 3).trans rfl; have hfz37_0 := blk_frozen BK102.out 0; have hfz37_1 := blk_frozen BK102.out 1; have hfz37_2 := blk_frozen BK102.out 2; have hfz37_3 := blk_frozen BK102.out 3))
  refine bodyPost_ret (results_ct rfl _ _ gb102 29 #[.int .i64 0, .int .i64 0, .int .i64 0, .int .i64 0] (0, 0) _ rfl (by (with_reducible repeat (first | refine blk_drewN ?_ _ | refine blk_drew ?_ | refine blk_alloc ?_ _)); refine blk_put (cs := #[.int .i64 0, .int .i64 0, .int .i64 0, .int .i64 0]) ?_ 3 _ rfl; (with_reducible repeat (first | refine blk_drewN ?_ _ | refine blk_drew ?_ | refine blk_alloc ?_ _)); refine blk_put (cs := #[.int .i64 0, .int .i64 0, .int .i64 0, .int .i64 0]) ?_ 2 _ rfl; (with_reducible repeat (first | refine blk_drewN ?_ _ | refine blk_drew ?_ | refine blk_alloc ?_ _)); refine blk_put (cs := #[.int .i64 0, .int .i64 0, .int .i64 0, .int .i64 0]) ?_ 1 _ rfl; (with_reducible repeat (first | refine blk_drewN ?_ _ | refine blk_drew ?_ | refine blk_alloc ?_ _)); refine blk_put (cs := #[.int .i64 0, .int .i64 0, .int .i64 0, .int .i64 0]) ?_ 0 _ rfl; (with_reducible repeat (first | refine blk_drewN ?_ _ | refine blk_drew ?_ | refine blk_alloc ?_ _)); exact BK102.out) Try.underlying29 rfl (by kernel_rfl)) rfl ?_
  exact ⟨by first | rfl | (simp [errW_none, errW_some] <;> rfl) | (simp [*, errW_none, errW_some] <;> rfl), by repeat (first | (with_reducible first | exact HB.out | apply below_alloc | apply pw_below_drewN | apply below_drew1 | refine below_set ?_ GE101.out | refine below_set ?_ GE102.out) | exact HB.out)⟩
end Go.Proofs.Ytiklpefckadgdaa.P
noncomputable section
namespace Go.Proofs.Ytiklpefckadgdaa.P
open Go.RowKit Go.Proofs.YtiklpefckadgdaaW.PrintWords Go.Proofs.YtiklpefckadgdaaW.PrintLast Go.Proofs.YtiklpefckadgdaaW.PrintMore
attribute [local go_sem] max2_int min2_int max_two min_two max_three min_three max_four min_four   -- for this text's walks alone
set_option linter.unusedVariables false
set_option linter.unusedSimpArgs false
def gooseneckref06_within.f (a0 : Int) (a1 : Int) (a2 : Int) : Option (Bool) := if a0 ≥ a1 then (some (decide (a0 ≤ a2))) else (some false)
set_option maxHeartbeats 8000000 in
set_option maxRecDepth 100000 in
theorem gooseneckref06_within.calls (a0 : Int) (a1 : Int) (a2 : Int) (r : Bool) (w : World) (h : gooseneckref06_within.f a0 a1 a2 = some r) :
  Calls Try.prog 57 #[.int .i64 a0, .int .i64 a1, .int .i64 a2] w fun e w' => e = .returned (.bool r) ∧ Drawn0 w w' := by
 have H : (if a0 ≥ a1 then (some (decide (a0 ≤ a2))) else (some false)) = some r := h
 clear h
 by_cases c4 : a0 ≥ a1
 ·rw [if_pos c4] at H
  have c4b0 : decide (a1 ≤ a0) = true := decide_eq_true c4
  clear c4
  obtain rfl := Option.some.inj H
  go_enter Try.func57, Try.ntmps57
  go_wp2
  go_ret
  exact ⟨by first | rfl | (simp; done) | (simp [*]; done), by repeat (first | exact Drawn0.refl _ | apply Drawn0.step)⟩
 ·rw [if_neg c4] at H
  have c4b0 : decide (a1 ≤ a0) = false := decide_eq_false c4
  clear c4
  obtain rfl := Option.some.inj H
  go_enter Try.func57, Try.ntmps57
  go_wp2
  go_ret
  exact ⟨by first | rfl | (simp; done) | (simp [*]; done), by repeat (first | exact Drawn0.refl _ | apply Drawn0.step)⟩
end Go.Proofs.Ytiklpefckadgdaa.P
noncomputable section
namespace Go.Proofs.Ytiklpefckadgdaa.P
open Go.RowKit Go.Proofs.YtiklpefckadgdaaW.PrintWords Go.Proofs.YtiklpefckadgdaaW.PrintLast Go.Proofs.YtiklpefckadgdaaW.PrintMore
attribute [local go_sem] max2_int min2_int max_two min_two max_three min_three max_four min_four   -- for this text's walks alone
set_option linter.unusedVariables false
set_option linter.unusedSimpArgs false
mutual
def gooseneckref06_Check.j0 : Nat → Bool → List Int → List Int → List Int → Int → Int → Int → Option (Int)
 | 0, _, _, _, _, _, _, _ => none
 | k + 1, x13, x102000, x102001, x102002, x102003, x102004, x102005 => if x13 = true then (some 6) else (if (x102001.length : Int) = (x102000.length : Int) then (gooseneckref06_Check.j1 k ((x102002.length : Int) != (x102000.length : Int)) x102000 x102001 x102002 x102003 x102004 x102005) else (gooseneckref06_Check.j1 k true x102000 x102001 x102002 x102003 x102004 x102005))
def gooseneckref06_Check.j1 : Nat → Bool → List Int → List Int → List Int → Int → Int → Int → Option (Int)
 | 0, _, _, _, _, _, _, _ => none
 | k + 1, x29, x102000, x102001, x102002, x102003, x102004, x102005 => if x29 = true then (some 17) else (gooseneckref06_Check.l0 k 0 x102000 x102001 x102002 x102003 x102004 x102005)
def gooseneckref06_Check.l0 : Nat → Int → List Int → List Int → List Int → Int → Int → Int → Option (Int)
 | 0, _, _, _, _, _, _, _ => none
 | k + 1, x3, x102000, x102001, x102002, x102003, x102004, x102005 => if x3 < (x102000.length : Int) then (if 0 ≤ x3 then ((gooseneckref06_within.f (rd x102000 x3) 100 131072).bind fun t103 => (if t103 = true then (if x3 < (x102001.length : Int) then ((gooseneckref06_within.f (rd x102001 x3) 1 1073741824).bind fun t105 => (if t105 = true then (if x3 < (x102002.length : Int) then ((gooseneckref06_within.f (rd x102002 x3) 1 1073741824).bind fun t107 => (if t107 = true then (gooseneckref06_Check.l0 k (wrap64 (x3 + 1)) x102000 x102001 x102002 x102003 x102004 x102005) else (some 2))) else (none)) else (some 2))) else (none)) else (some 2))) else (none)) else ((gooseneckref06_within.f x102003 0 1000).bind fun t108 => (if t108 = true then (if x102004 < 1 then (some 2) else (if x102004 > 4 then (some 2) else ((gooseneckref06_within.f x102005 0 4096).bind fun t109 => (if t109 = true then (some 0) else (some 2))))) else (some 2)))
end
def gooseneckref06_Check.f (k : Nat) (l0_0 : List Int) (l0_1 : List Int) (l0_2 : List Int) (a0_3 : Int) (a0_4 : Int) (a0_5 : Int) : Option (Int) := if (l0_0.length : Int) < 1 then (gooseneckref06_Check.j0 k true l0_0 l0_1 l0_2 a0_3 a0_4 a0_5) else (gooseneckref06_Check.j0 k (decide ((l0_0.length : Int) > 6)) l0_0 l0_1 l0_2 a0_3 a0_4 a0_5)
theorem gooseneckref06_Check.mono_l : ∀ k, (∀ y0 y1 y2 y3 y4 y5 y6, LeO (gooseneckref06_Check.j0 k y0 y1 y2 y3 y4 y5 y6) (gooseneckref06_Check.j0 (k + 1) y0 y1 y2 y3 y4 y5 y6)) ∧ (∀ y0 y1 y2 y3 y4 y5 y6, LeO (gooseneckref06_Check.j1 k y0 y1 y2 y3 y4 y5 y6) (gooseneckref06_Check.j1 (k + 1) y0 y1 y2 y3 y4 y5 y6)) ∧ (∀ y0 y1 y2 y3 y4 y5 y6, LeO (gooseneckref06_Check.l0 k y0 y1 y2 y3 y4 y5 y6) (gooseneckref06_Check.l0 (k + 1) y0 y1 y2 y3 y4 y5 y6))
 | 0 => ⟨fun _ _ _ _ _ _ _ r h => by simp [gooseneckref06_Check.j0] at h, fun _ _ _ _ _ _ _ r h => by simp [gooseneckref06_Check.j1] at h, fun _ _ _ _ _ _ _ r h => by simp [gooseneckref06_Check.l0] at h⟩
 | k + 1 => by
  obtain ⟨ih0, ih1, ih2⟩ := gooseneckref06_Check.mono_l k
  refine ⟨?_, ?_, ?_⟩
  ·intro y0 y1 y2 y3 y4 y5 y6
   unfold gooseneckref06_Check.j0
   repeat' first
   | (with_reducible exact ih0 _ _ _ _ _ _ _)
   | (with_reducible exact ih1 _ _ _ _ _ _ _)
   | (with_reducible exact ih2 _ _ _ _ _ _ _)
   | (with_reducible exact LeO.refl _)
   | (with_reducible exact LeO.none _)
   | (with_reducible refine LeO.ite ?_ ?_)
   | (with_reducible refine LeO.bind ?_ (fun _ => ?_))
   | exact ih0 _ _ _ _ _ _ _
   | exact ih1 _ _ _ _ _ _ _
   | exact ih2 _ _ _ _ _ _ _
   | exact LeO.none _
   | refine LeO.ite ?_ ?_
   | refine LeO.bind ?_ (fun _ => ?_)
  ·intro y0 y1 y2 y3 y4 y5 y6
   unfold gooseneckref06_Check.j1
   repeat' first
   | (with_reducible exact ih0 _ _ _ _ _ _ _)
   | (with_reducible exact ih1 _ _ _ _ _ _ _)
   | (with_reducible exact ih2 _ _ _ _ _ _ _)
   | (with_reducible exact LeO.refl _)
   | (with_reducible exact LeO.none _)
   | (with_reducible refine LeO.ite ?_ ?_)
   | (with_reducible refine LeO.bind ?_ (fun _ => ?_))
   | exact ih0 _ _ _ _ _ _ _
   | exact ih1 _ _ _ _ _ _ _
   | exact ih2 _ _ _ _ _ _ _
   | exact LeO.none _
   | refine LeO.ite ?_ ?_
   | refine LeO.bind ?_ (fun _ => ?_)
  ·intro y0 y1 y2 y3 y4 y5 y6
   unfold gooseneckref06_Check.l0
   repeat' first
   | (with_reducible exact ih0 _ _ _ _ _ _ _)
   | (with_reducible exact ih1 _ _ _ _ _ _ _)
   | (with_reducible exact ih2 _ _ _ _ _ _ _)
   | (with_reducible exact LeO.refl _)
   | (with_reducible exact LeO.none _)
   | (with_reducible refine LeO.ite ?_ ?_)
   | (with_reducible refine LeO.bind ?_ (fun _ => ?_))
   | exact ih0 _ _ _ _ _ _ _
   | exact ih1 _ _ _ _ _ _ _
   | exact ih2 _ _ _ _ _ _ _
   | exact LeO.none _
   | refine LeO.ite ?_ ?_
   | refine LeO.bind ?_ (fun _ => ?_)
theorem gooseneckref06_Check.mono : ∀ a0 a1 a2 a3 a4 a5 k, LeO (gooseneckref06_Check.f k a0 a1 a2 a3 a4 a5) (gooseneckref06_Check.f (k + 1) a0 a1 a2 a3 a4 a5) := by
 intro a0 a1 a2 a3 a4 a5 k
 obtain ⟨ih0, ih1, ih2⟩ := gooseneckref06_Check.mono_l k
 unfold gooseneckref06_Check.f
 repeat' first
   | (with_reducible exact ih0 _ _ _ _ _ _ _)
   | (with_reducible exact ih1 _ _ _ _ _ _ _)
   | (with_reducible exact ih2 _ _ _ _ _ _ _)
   | (with_reducible exact LeO.refl _)
   | (with_reducible exact LeO.none _)
   | (with_reducible refine LeO.ite ?_ ?_)
   | (with_reducible refine LeO.bind ?_ (fun _ => ?_))
   | exact ih0 _ _ _ _ _ _ _
   | exact ih1 _ _ _ _ _ _ _
   | exact ih2 _ _ _ _ _ _ _
   | exact LeO.none _
   | refine LeO.ite ?_ ?_
   | refine LeO.bind ?_ (fun _ => ?_)
set_option maxHeartbeats 8000000 in
set_option maxRecDepth 100000 in
theorem gooseneckref06_Check.calls (k : Nat) (A0_0 : Option Addr) (c0_0 : Nat) (l0_0 : List Int) (A0_1 : Option Addr) (c0_1 : Nat) (l0_1 : List Int) (A0_2 : Option Addr) (c0_2 : Nat) (l0_2 : List Int) (a0_3 : Int) (a0_4 : Int) (a0_5 : Int) (r : Int) (w : World) (hr0_0 : Kd.C (Kd.int .i64) w A0_0 l0_0.length l0_0) (hc0_0 : l0_0.length ≤ c0_0) (hr0_1 : Kd.C (Kd.int .i64) w A0_1 l0_1.length l0_1) (hc0_1 : l0_1.length ≤ c0_1) (hr0_2 : Kd.C (Kd.int .i64) w A0_2 l0_2.length l0_2) (hc0_2 : l0_2.length ≤ c0_2) (h : gooseneckref06_Check.f k l0_0 l0_1 l0_2 a0_3 a0_4 a0_5 = some r) :
  Calls Try.prog 30 #[.agg #[.slice A0_0 l0_0.length c0_0, .slice A0_1 l0_1.length c0_1, .slice A0_2 l0_2.length c0_2, .int .i64 a0_3, .int .i64 a0_4, .int .i64 a0_5]] w fun e w' => e = .returned (.int .i64 r) ∧ Below w.heap.size w w' := by
 have hu24 := Try.underlying24
 have HR0_0 := Aside0.mk hr0_0
 have HC0_0 := Aside0.mk hc0_0
 clear hr0_0 hc0_0
 have HR0_1 := Aside0.mk hr0_1
 have HC0_1 := Aside0.mk hc0_1
 clear hr0_1 hc0_1
 have HR0_2 := Aside0.mk hr0_2
 have HC0_2 := Aside0.mk hc0_2
 clear hr0_2 hc0_2
 have HB := Aside0.mk (Below.refl w.heap.size w)
 have H : (if (l0_0.length : Int) < 1 then (gooseneckref06_Check.j0 k true l0_0 l0_1 l0_2 a0_3 a0_4 a0_5) else (gooseneckref06_Check.j0 k (decide ((l0_0.length : Int) > 6)) l0_0 l0_1 l0_2 a0_3 a0_4 a0_5)) = some r := h
 clear h
 have HC2 := Aside0.mk H
 clear H
 go_enter Try.func30, Try.ntmps30
 go_upto_region 1 with (first | ((with_reducible refine gate_dst (N := 1) rfl ?_); (try (refine gate_guard (by rfl) ?_; dsimp only)); refine box_event ?hg (N := 1) ?hd (cs := #[.slice A0_0 l0_0.length c0_0, .slice A0_1 l0_1.length c0_1, .slice A0_2 l0_2.length c0_2, .int .i64 a0_3, .int .i64 a0_4, .int .i64 a0_5]) (t := 24) ?hr ?_; (case hd => rfl); (case hg => rfl); (case hr => first | (go_simp; done) | (go_simp; rfl)); intro gb101 hg w3 hbox hb; have n0_ := Aside0.mk (below_step (by repeat (first | (with_reducible first | exact HB.out | apply below_alloc | apply pw_below_drewN | apply below_drew1) | exact HB.out)) hb); have n1_ := Aside0.mk (hbox); have n2_ := Aside0.mk ((by rw [hg]; exact (below_size (by repeat (first | (with_reducible first | exact HB.out | apply below_alloc | apply pw_below_drewN | apply below_drew1) | exact HB.out))) : w.heap.size ≤ gb101)); have n3_ := Aside0.mk ((by rw [hg]; exact (below_size (by repeat (first | (with_reducible first | exact HB.out | apply below_alloc | apply pw_below_drewN | apply below_drew1) | exact HB.out))) : w.heap.size ≤ gb101)); clear HB; have HB := n0_; have BK101 := n1_; have GW101 := n2_; have GE101 := n3_; clear n0_ n1_ n2_ n3_; clear hb hbox hg))
 (try simp only [Act.put, List.setIfInBounds_toArray, List.set_cons_zero, List.set_cons_succ])
 go_cut [13] (fun v13 wc => ∃ (kq : Nat) (x13_1 : Bool), v13 = .bool x13_1 ∧ Aside0 (gooseneckref06_Check.j0 kq x13_1 l0_0 l0_1 l0_2 a0_3 a0_4 a0_5 = some r) ∧ Aside0 (kq ≤ k) ∧ Aside0 (wc.heap[gb101]? = some (.cells #[(.slice A0_0 l0_0.length c0_0), (.slice A0_1 l0_1.length c0_1), (.slice A0_2 l0_2.length c0_2), .int .i64 a0_3, .int .i64 a0_4, .int .i64 a0_5] 24 (0, 0))) ∧ Aside0 (Below w.heap.size w wc))
 case first =>
  have H := HC2.out
  clear HC2
  by_cases c4 : (l0_0.length : Int) < 1
  ·rw [if_pos c4] at H
   have c4b0 : decide ((l0_0.length : Int) < 1) = true := decide_eq_true c4
   have c4b1 : decide (l0_0.length < 1) = true := decide_eq_true (by omega)
   clear c4
   (first | rw [c4b0] | (simp only [i64_w, i32_w]; rw [c4b0]) | skip)
   have H' := Aside0.mk H
   clear H
   have hcz5_0 : w3.cell? ⟨gb101, 0, none⟩ = some (.slice A0_0 l0_0.length c0_0) := (blk_cell BK101.out 0).trans rfl
   have hcz5_1 : w3.cell? ⟨gb101, 1, none⟩ = some (.slice A0_1 l0_1.length c0_1) := (blk_cell BK101.out 1).trans rfl
   have hcz5_2 : w3.cell? ⟨gb101, 2, none⟩ = some (.slice A0_2 l0_2.length c0_2) := (blk_cell BK101.out 2).trans rfl
   have hcz5_3 : w3.cell? ⟨gb101, 3, none⟩ = some (.int .i64 a0_3) := (blk_cell BK101.out 3).trans rfl
   have hcz5_4 : w3.cell? ⟨gb101, 4, none⟩ = some (.int .i64 a0_4) := (blk_cell BK101.out 4).trans rfl
   have hcz5_5 : w3.cell? ⟨gb101, 5, none⟩ = some (.int .i64 a0_5) := (blk_cell BK101.out 5).trans rfl
   have hfz5_0 := blk_frozen BK101.out 0
   have hfz5_1 := blk_frozen BK101.out 1
   have hfz5_2 := blk_frozen BK101.out 2
   have hfz5_3 := blk_frozen BK101.out 3
   have hfz5_4 := blk_frozen BK101.out 4
   have hfz5_5 := blk_frozen BK101.out 5
   go_wp2
   go_meet
   case rel => exact ⟨_, (true), (by first | rfl | (simp; done) | (simp [*]; done)), H', ⟨by first | omega | exact Nat.le_refl _⟩, ⟨by (with_reducible repeat (first | refine blk_drewN ?_ _ | refine blk_drew ?_ | refine blk_alloc ?_ _)); exact BK101.out⟩, ⟨by repeat (first | (with_reducible first | exact HB.out | apply below_alloc | apply pw_below_drewN | apply below_drew1 | refine below_set ?_ GE101.out) | exact HB.out)⟩⟩
  ·rw [if_neg c4] at H
   have c4b0 : decide ((l0_0.length : Int) < 1) = false := decide_eq_false c4
   have c4b1 : decide (l0_0.length < 1) = false := decide_eq_false (by omega)
   clear c4
   (first | rw [c4b0] | (simp only [i64_w, i32_w]; rw [c4b0]) | skip)
   have H' := Aside0.mk H
   clear H
   have hcz6_0 : w3.cell? ⟨gb101, 0, none⟩ = some (.slice A0_0 l0_0.length c0_0) := (blk_cell BK101.out 0).trans rfl
   have hcz6_1 : w3.cell? ⟨gb101, 1, none⟩ = some (.slice A0_1 l0_1.length c0_1) := (blk_cell BK101.out 1).trans rfl
   have hcz6_2 : w3.cell? ⟨gb101, 2, none⟩ = some (.slice A0_2 l0_2.length c0_2) := (blk_cell BK101.out 2).trans rfl
   have hcz6_3 : w3.cell? ⟨gb101, 3, none⟩ = some (.int .i64 a0_3) := (blk_cell BK101.out 3).trans rfl
   have hcz6_4 : w3.cell? ⟨gb101, 4, none⟩ = some (.int .i64 a0_4) := (blk_cell BK101.out 4).trans rfl
   have hcz6_5 : w3.cell? ⟨gb101, 5, none⟩ = some (.int .i64 a0_5) := (blk_cell BK101.out 5).trans rfl
   have hfz6_0 := blk_frozen BK101.out 0
   have hfz6_1 := blk_frozen BK101.out 1
   have hfz6_2 := blk_frozen BK101.out 2
   have hfz6_3 := blk_frozen BK101.out 3
   have hfz6_4 := blk_frozen BK101.out 4
   have hfz6_5 := blk_frozen BK101.out 5
   go_wp2
   go_meet
   case rel => exact ⟨_, (decide ((l0_0.length : Int) > 6)), (by first | rfl | (simp; done) | (simp [*]; done)), H', ⟨by first | omega | exact Nat.le_refl _⟩, ⟨by (with_reducible repeat (first | refine blk_drewN ?_ _ | refine blk_drew ?_ | refine blk_alloc ?_ _)); exact BK101.out⟩, ⟨by repeat (first | (with_reducible first | exact HB.out | apply below_alloc | apply pw_below_drewN | apply below_drew1 | refine below_set ?_ GE101.out) | exact HB.out)⟩⟩
 case rest =>
  clear HC2
  try clear p2
  try clear c3
  try clear c4
  try clear c4b0
  try clear c4b1
  try clear hcz5_0
  try clear hcz5_1
  try clear hcz5_2
  try clear hcz5_3
  try clear hcz5_4
  try clear hcz5_5
  try clear hcz6_0
  try clear hcz6_1
  try clear hcz6_2
  try clear hcz6_3
  try clear hcz6_4
  try clear hcz6_5
  try clear hfz5_0
  try clear hfz5_1
  try clear hfz5_2
  try clear hfz5_3
  try clear hfz5_4
  try clear hfz5_5
  try clear hfz6_0
  try clear hfz6_1
  try clear hfz6_2
  try clear hfz6_3
  try clear hfz6_4
  try clear hfz6_5
  obtain ⟨kq, x13_1, rfl, HA, HJ1, BK101, HB⟩ := hcut
  cases kq with
  | zero => exact absurd HA.out (by simp [gooseneckref06_Check.j0])
  | succ kj1 =>
   have H := HA.out
   clear HA
   simp only [gooseneckref06_Check.j0] at H
   by_cases c7 : x13_1 = true
   ·subst c7
    have H1 : (some 6) = some r := by rw [if_pos rfl] at H; exact H
    clear H
    have H := H1
    clear H1
    obtain rfl := Option.some.inj H
    go_wp2
    go_ret
    exact ⟨by first | rfl | (simp [errW_none, errW_some] <;> rfl) | (simp [*, errW_none, errW_some] <;> rfl), by repeat (first | (with_reducible first | exact HB.out | apply below_alloc | apply pw_below_drewN | apply below_drew1 | refine below_set ?_ GE101.out) | exact HB.out)⟩
   ·replace c7 := Bool.eq_false_iff.mpr c7
    subst c7
    have H1 : (if (l0_1.length : Int) = (l0_0.length : Int) then (gooseneckref06_Check.j1 kj1 ((l0_2.length : Int) != (l0_0.length : Int)) l0_0 l0_1 l0_2 a0_3 a0_4 a0_5) else (gooseneckref06_Check.j1 kj1 true l0_0 l0_1 l0_2 a0_3 a0_4 a0_5)) = some r := by rw [if_neg (show ¬ (false = true) by decide)] at H; exact H
    clear H
    have H := H1
    clear H1
    have HC8 := Aside0.mk H
    clear H
    go_upto_region 3 with (fail)
    go_cut [29] (fun v29 wc => ∃ (kq : Nat) (x29_7 : Bool), v29 = .bool x29_7 ∧ Aside0 (gooseneckref06_Check.j1 kq x29_7 l0_0 l0_1 l0_2 a0_3 a0_4 a0_5 = some r) ∧ Aside0 (kq ≤ kj1) ∧ Aside0 (wc.heap[gb101]? = some (.cells #[(.slice A0_0 l0_0.length c0_0), (.slice A0_1 l0_1.length c0_1), (.slice A0_2 l0_2.length c0_2), .int .i64 a0_3, .int .i64 a0_4, .int .i64 a0_5] 24 (0, 0))) ∧ Aside0 (Below w.heap.size w wc))
    case first =>
     have H := HC8.out
     clear HC8
     by_cases c9 : (l0_1.length : Int) = (l0_0.length : Int)
     ·rw [if_pos c9] at H
      have c9b0 : ((l0_1.length : Int) == (l0_0.length : Int)) = true := beq_iff_eq.mpr c9
      have c9b1 : ((l0_1.length : Int) != (l0_0.length : Int)) = false := bne_eq_false_iff_eq.mpr c9
      have c9b2 : (l0_1.length == l0_0.length) = true := by first | simpa using c9 | (simp at c9 ⊢; omega)
      clear c9
      (first | rw [c9b0] | (simp only [i64_w, i32_w]; rw [c9b0]) | skip)
      have H' := Aside0.mk H
      clear H
      have hcz10_0 : wc.cell? ⟨gb101, 0, none⟩ = some (.slice A0_0 l0_0.length c0_0) := (blk_cell BK101.out 0).trans rfl
      have hcz10_1 : wc.cell? ⟨gb101, 1, none⟩ = some (.slice A0_1 l0_1.length c0_1) := (blk_cell BK101.out 1).trans rfl
      have hcz10_2 : wc.cell? ⟨gb101, 2, none⟩ = some (.slice A0_2 l0_2.length c0_2) := (blk_cell BK101.out 2).trans rfl
      have hcz10_3 : wc.cell? ⟨gb101, 3, none⟩ = some (.int .i64 a0_3) := (blk_cell BK101.out 3).trans rfl
      have hcz10_4 : wc.cell? ⟨gb101, 4, none⟩ = some (.int .i64 a0_4) := (blk_cell BK101.out 4).trans rfl
      have hcz10_5 : wc.cell? ⟨gb101, 5, none⟩ = some (.int .i64 a0_5) := (blk_cell BK101.out 5).trans rfl
      have hfz10_0 := blk_frozen BK101.out 0
      have hfz10_1 := blk_frozen BK101.out 1
      have hfz10_2 := blk_frozen BK101.out 2
      have hfz10_3 := blk_frozen BK101.out 3
      have hfz10_4 := blk_frozen BK101.out 4
      have hfz10_5 := blk_frozen BK101.out 5
      go_wp2
      go_meet
      case rel => exact ⟨_, (((l0_2.length : Int) != (l0_0.length : Int))), (by first | rfl | (simp; done) | (simp [*]; done)), H', ⟨by have := HJ1.out; first | omega | exact Nat.le_refl _⟩, ⟨by (with_reducible repeat (first | refine blk_drewN ?_ _ | refine blk_drew ?_ | refine blk_alloc ?_ _)); exact BK101.out⟩, ⟨by repeat (first | (with_reducible first | exact HB.out | apply below_alloc | apply pw_below_drewN | apply below_drew1 | refine below_set ?_ GE101.out) | exact HB.out)⟩⟩
     ·rw [if_neg c9] at H
      have c9b0 : ((l0_1.length : Int) == (l0_0.length : Int)) = false := beq_eq_false_iff_ne.mpr c9
      have c9b1 : ((l0_1.length : Int) != (l0_0.length : Int)) = true := bne_iff_ne.mpr c9
      have c9b2 : (l0_1.length == l0_0.length) = false := by first | simpa using c9 | (simp at c9 ⊢; omega)
      (first | rw [c9b0] | (simp only [i64_w, i32_w]; rw [c9b0]) | skip)
      have H' := Aside0.mk H
      clear H
      have hcz11_0 : wc.cell? ⟨gb101, 0, none⟩ = some (.slice A0_0 l0_0.length c0_0) := (blk_cell BK101.out 0).trans rfl
      have hcz11_1 : wc.cell? ⟨gb101, 1, none⟩ = some (.slice A0_1 l0_1.length c0_1) := (blk_cell BK101.out 1).trans rfl
      have hcz11_2 : wc.cell? ⟨gb101, 2, none⟩ = some (.slice A0_2 l0_2.length c0_2) := (blk_cell BK101.out 2).trans rfl
      have hcz11_3 : wc.cell? ⟨gb101, 3, none⟩ = some (.int .i64 a0_3) := (blk_cell BK101.out 3).trans rfl
      have hcz11_4 : wc.cell? ⟨gb101, 4, none⟩ = some (.int .i64 a0_4) := (blk_cell BK101.out 4).trans rfl
      have hcz11_5 : wc.cell? ⟨gb101, 5, none⟩ = some (.int .i64 a0_5) := (blk_cell BK101.out 5).trans rfl
      have hfz11_0 := blk_frozen BK101.out 0
      have hfz11_1 := blk_frozen BK101.out 1
      have hfz11_2 := blk_frozen BK101.out 2
      have hfz11_3 := blk_frozen BK101.out 3
      have hfz11_4 := blk_frozen BK101.out 4
      have hfz11_5 := blk_frozen BK101.out 5
      go_wp2
      go_meet
      case rel => exact ⟨_, (true), (by first | rfl | (simp; done) | (simp [*]; done)), H', ⟨by have := HJ1.out; first | omega | exact Nat.le_refl _⟩, ⟨by (with_reducible repeat (first | refine blk_drewN ?_ _ | refine blk_drew ?_ | refine blk_alloc ?_ _)); exact BK101.out⟩, ⟨by repeat (first | (with_reducible first | exact HB.out | apply below_alloc | apply pw_below_drewN | apply below_drew1 | refine below_set ?_ GE101.out) | exact HB.out)⟩⟩
    case rest =>
     clear HC8
     try clear p2
     try clear c3
     try clear c4
     try clear c4b0
     try clear c4b1
     try clear c7
     try clear c9
     try clear c9b0
     try clear c9b1
     try clear c9b2
     try clear hcz10_0
     try clear hcz10_1
     try clear hcz10_2
     try clear hcz10_3
     try clear hcz10_4
     try clear hcz10_5
     try clear hcz11_0
     try clear hcz11_1
     try clear hcz11_2
     try clear hcz11_3
     try clear hcz11_4
     try clear hcz11_5
     try clear hcz5_0
     try clear hcz5_1
     try clear hcz5_2
     try clear hcz5_3
     try clear hcz5_4
     try clear hcz5_5
     try clear hcz6_0
     try clear hcz6_1
     try clear hcz6_2
     try clear hcz6_3
     try clear hcz6_4
     try clear hcz6_5
     try clear hfz10_0
     try clear hfz10_1
     try clear hfz10_2
     try clear hfz10_3
     try clear hfz10_4
     try clear hfz10_5
     try clear hfz11_0
     try clear hfz11_1
     try clear hfz11_2
     try clear hfz11_3
     try clear hfz11_4
     try clear hfz11_5
     try clear hfz5_0
     try clear hfz5_1
     try clear hfz5_2
     try clear hfz5_3
     try clear hfz5_4
     try clear hfz5_5
     try clear hfz6_0
     try clear hfz6_1
     try clear hfz6_2
     try clear hfz6_3
     try clear hfz6_4
     try clear hfz6_5
     try clear p2
     obtain ⟨kq, x29_7, rfl, HA, HJ7, BK101, HB⟩ := hcut
     cases kq with
     | zero => exact absurd HA.out (by simp [gooseneckref06_Check.j1])
     | succ kj7 =>
      have H := HA.out
      clear HA
      simp only [gooseneckref06_Check.j1] at H
      by_cases c12 : x29_7 = true
      ·subst c12
       have H1 : (some 17) = some r := by rw [if_pos rfl] at H; exact H
       clear H
       have H := H1
       clear H1
       obtain rfl := Option.some.inj H
       go_wp2
       go_ret
       exact ⟨by first | rfl | (simp [errW_none, errW_some] <;> rfl) | (simp [*, errW_none, errW_some] <;> rfl), by repeat (first | (with_reducible first | exact HB.out | apply below_alloc | apply pw_below_drewN | apply below_drew1 | refine below_set ?_ GE101.out) | exact HB.out)⟩
      ·replace c12 := Bool.eq_false_iff.mpr c12
       subst c12
       have H1 : (gooseneckref06_Check.l0 kj7 0 l0_0 l0_1 l0_2 a0_3 a0_4 a0_5) = some r := by rw [if_neg (show ¬ (false = true) by decide)] at H; exact H
       clear H
       have H := H1
       clear H1
       have H' := Aside0.mk H
       clear H
       go_wp2
       go_loopg [3] kj7 (fun kq v3 w' => ∃ (x3_3 : Int), v3 = .int .i64 x3_3 ∧ Aside0 (gooseneckref06_Check.l0 kq x3_3 l0_0 l0_1 l0_2 a0_3 a0_4 a0_5 = some r) ∧ Aside0 (kq ≤ kj7) ∧ Aside0 (w'.heap[gb101]? = some (.cells #[(.slice A0_0 l0_0.length c0_0), (.slice A0_1 l0_1.length c0_1), (.slice A0_2 l0_2.length c0_2), .int .i64 a0_3, .int .i64 a0_4, .int .i64 a0_5] 24 (0, 0))) ∧ Aside0 (Below w.heap.size w w'))
       case atStart => exact ⟨(0), (by first | rfl | (simp; done) | (simp [*]; done)), H', ⟨Nat.le_refl _⟩, ⟨by (with_reducible repeat (first | refine blk_drewN ?_ _ | refine blk_drew ?_ | refine blk_alloc ?_ _)); exact BK101.out⟩, ⟨by repeat (first | (with_reducible first | exact HB.out | apply below_alloc | apply pw_below_drewN | apply below_drew1 | refine below_set ?_ GE101.out) | exact HB.out)⟩⟩
       case round =>
        clear H'
        try clear c1
        try clear p2
        try clear c3
        try clear c4
        try clear c4b0
        try clear c4b1
        try clear c7
        try clear c9
        try clear c9b0
        try clear c9b1
        try clear c9b2
        try clear c12
        try clear hcz10_0
        try clear hcz10_1
        try clear hcz10_2
        try clear hcz10_3
        try clear hcz10_4
        try clear hcz10_5
        try clear hcz11_0
        try clear hcz11_1
        try clear hcz11_2
        try clear hcz11_3
        try clear hcz11_4
        try clear hcz11_5
        try clear hcz5_0
        try clear hcz5_1
        try clear hcz5_2
        try clear hcz5_3
        try clear hcz5_4
        try clear hcz5_5
        try clear hcz6_0
        try clear hcz6_1
        try clear hcz6_2
        try clear hcz6_3
        try clear hcz6_4
        try clear hcz6_5
        try clear hfz10_0
        try clear hfz10_1
        try clear hfz10_2
        try clear hfz10_3
        try clear hfz10_4
        try clear hfz10_5
        try clear hfz11_0
        try clear hfz11_1
        try clear hfz11_2
        try clear hfz11_3
        try clear hfz11_4
        try clear hfz11_5
        try clear hfz5_0
        try clear hfz5_1
        try clear hfz5_2
        try clear hfz5_3
        try clear hfz5_4
        try clear hfz5_5
        try clear hfz6_0
        try clear hfz6_1
        try clear hfz6_2
        try clear hfz6_3
        try clear hfz6_4
        try clear hfz6_5
        try clear p2
        obtain ⟨x3_3, rfl, HA, HK3, BK101, HB⟩ := hrel
        cases gk with
        | zero => exact absurd HA.out (by simp [gooseneckref06_Check.l0])
        | succ k3 =>
         have H := HA.out
         clear HA
         simp only [gooseneckref06_Check.l0] at H
         by_cases c13 : x3_3 < (l0_0.length : Int)
         ·rw [if_pos c13] at H
          have c13b0 : decide (x3_3 < (l0_0.length : Int)) = true := decide_eq_true c13
          clear c13
          by_cases c14 : 0 ≤ x3_3
          ·rw [if_pos c14] at H
           have c14b0 : decide (0 ≤ x3_3) = true := decide_eq_true c14
           clear c14
           replace H := Option.bind_eq_some_iff.mp H
           obtain ⟨t103, A150, H⟩ := H
           replace H : (if t103 = true then (if x3_3 < (l0_1.length : Int) then ((gooseneckref06_within.f (rd l0_1 x3_3) 1 1073741824).bind fun t105 => (if t105 = true then (if x3_3 < (l0_2.length : Int) then ((gooseneckref06_within.f (rd l0_2 x3_3) 1 1073741824).bind fun t107 => (if t107 = true then (gooseneckref06_Check.l0 k3 (wrap64 (x3_3 + 1)) l0_0 l0_1 l0_2 a0_3 a0_4 a0_5) else (some 2))) else (none)) else (some 2))) else (none)) else (some 2)) = some r := H
           have A15 := Aside0.mk A150
           clear A150
           by_cases c16 : t103 = true
           ·subst c16
            have H1 : (if x3_3 < (l0_1.length : Int) then ((gooseneckref06_within.f (rd l0_1 x3_3) 1 1073741824).bind fun t105 => (if t105 = true then (if x3_3 < (l0_2.length : Int) then ((gooseneckref06_within.f (rd l0_2 x3_3) 1 1073741824).bind fun t107 => (if t107 = true then (gooseneckref06_Check.l0 k3 (wrap64 (x3_3 + 1)) l0_0 l0_1 l0_2 a0_3 a0_4 a0_5) else (some 2))) else (none)) else (some 2))) else (none)) = some r := by rw [if_pos rfl] at H; exact H
            clear H
            have H := H1
            clear H1
            by_cases c17 : x3_3 < (l0_1.length : Int)
            ·rw [if_pos c17] at H
             have c17b0 : decide (x3_3 < (l0_1.length : Int)) = true := decide_eq_true c17
             clear c17
             replace H := Option.bind_eq_some_iff.mp H
             obtain ⟨t105, A180, H⟩ := H
             replace H : (if t105 = true then (if x3_3 < (l0_2.length : Int) then ((gooseneckref06_within.f (rd l0_2 x3_3) 1 1073741824).bind fun t107 => (if t107 = true then (gooseneckref06_Check.l0 k3 (wrap64 (x3_3 + 1)) l0_0 l0_1 l0_2 a0_3 a0_4 a0_5) else (some 2))) else (none)) else (some 2)) = some r := H
             have A18 := Aside0.mk A180
             clear A180
             by_cases c19 : t105 = true
             ·subst c19
              have H1 : (if x3_3 < (l0_2.length : Int) then ((gooseneckref06_within.f (rd l0_2 x3_3) 1 1073741824).bind fun t107 => (if t107 = true then (gooseneckref06_Check.l0 k3 (wrap64 (x3_3 + 1)) l0_0 l0_1 l0_2 a0_3 a0_4 a0_5) else (some 2))) else (none)) = some r := by rw [if_pos rfl] at H; exact H
              clear H
              have H := H1
              clear H1
              by_cases c20 : x3_3 < (l0_2.length : Int)
              ·rw [if_pos c20] at H
               have c20b0 : decide (x3_3 < (l0_2.length : Int)) = true := decide_eq_true c20
               clear c20
               replace H := Option.bind_eq_some_iff.mp H
               obtain ⟨t107, A210, H⟩ := H
               replace H : (if t107 = true then (gooseneckref06_Check.l0 k3 (wrap64 (x3_3 + 1)) l0_0 l0_1 l0_2 a0_3 a0_4 a0_5) else (some 2)) = some r := H
               have A21 := Aside0.mk A210
               clear A210
               by_cases c22 : t107 = true
               ·subst c22
                have H1 : (gooseneckref06_Check.l0 k3 (wrap64 (x3_3 + 1)) l0_0 l0_1 l0_2 a0_3 a0_4 a0_5) = some r := by rw [if_pos rfl] at H; exact H
                clear H
                have H := H1
                clear H1
                have H' := Aside0.mk H
                clear H
                have hcz23_0 : wr.cell? ⟨gb101, 0, none⟩ = some (.slice A0_0 l0_0.length c0_0) := (blk_cell BK101.out 0).trans rfl
                have hcz23_1 : wr.cell? ⟨gb101, 1, none⟩ = some (.slice A0_1 l0_1.length c0_1) := (blk_cell BK101.out 1).trans rfl
                have hcz23_2 : wr.cell? ⟨gb101, 2, none⟩ = some (.slice A0_2 l0_2.length c0_2) := (blk_cell BK101.out 2).trans rfl
                have hcz23_3 : wr.cell? ⟨gb101, 3, none⟩ = some (.int .i64 a0_3) := (blk_cell BK101.out 3).trans rfl
                have hcz23_4 : wr.cell? ⟨gb101, 4, none⟩ = some (.int .i64 a0_4) := (blk_cell BK101.out 4).trans rfl
                have hcz23_5 : wr.cell? ⟨gb101, 5, none⟩ = some (.int .i64 a0_5) := (blk_cell BK101.out 5).trans rfl
                have hfz23_0 := blk_frozen BK101.out 0
                have hfz23_1 := blk_frozen BK101.out 1
                have hfz23_2 := blk_frozen BK101.out 2
                have hfz23_3 := blk_frozen BK101.out 3
                have hfz23_4 := blk_frozen BK101.out 4
                have hfz23_5 := blk_frozen BK101.out 5
                have p102 : 0 ≤ (x3_3 : Int) := of_decide_eq_true (by first | (with_reducible assumption) | assumption)
                have q102 : x3_3 < (l0_0.length : Int) := of_decide_eq_true (by first | (with_reducible assumption) | assumption)
                obtain ⟨ad102, e102, hx102_0⟩ := Kd.at_int HR0_0.out x3_3 p102 q102
                cases e102
                replace hx102_0 := (HB.out.cell (World.block_lt_of_cell? w _ hx102_0)).trans hx102_0
                replace p102 := eq_true p102
                replace q102 := eq_true q102
                go_wp2_with (first | ((with_reducible refine gate_callee (f := 57) rfl ?_); refine goesL_ (some 42) rfl rfl Try.func57 (by kernel_rfl) rfl #[.int .i64 (rd l0_0 x3_3), .int .i64 100, .int .i64 131072] rfl (by (try simp only [List.map_toArray, List.map_cons, List.map_nil]); first | done | rfl | (simp only [List.length_drop, List.length_take]; rfl)) ?_; (with_reducible refine (gooseneckref06_within.calls (rd l0_0 x3_3) 100 131072 true _ A15.out).mono ?_); rintro e w' ⟨rfl, ⟨nd, rfl⟩⟩; refine ⟨_, rfl, ?_⟩; have p104 : 0 ≤ (x3_3 : Int) := of_decide_eq_true (by first | (with_reducible assumption) | assumption); have q104 : x3_3 < (l0_1.length : Int) := of_decide_eq_true (by first | (with_reducible assumption) | assumption); obtain ⟨ad104, e104, hx104_0⟩ := Kd.at_int HR0_1.out x3_3 p104 q104; cases e104; replace hx104_0 := (HB.out.cell (World.block_lt_of_cell? w _ hx104_0)).trans hx104_0; replace p104 := eq_true p104; replace q104 := eq_true q104) | (go_at_call 57; (with_reducible refine (gooseneckref06_within.calls (rd l0_1 x3_3) 1 1073741824 true _ A18.out).mono ?_); rintro e w' ⟨rfl, ⟨nd, rfl⟩⟩; have p106 : 0 ≤ (x3_3 : Int) := of_decide_eq_true (by first | (with_reducible assumption) | assumption); have q106 : x3_3 < (l0_2.length : Int) := of_decide_eq_true (by first | (with_reducible assumption) | assumption); obtain ⟨ad106, e106, hx106_0⟩ := Kd.at_int HR0_2.out x3_3 p106 q106; cases e106; replace hx106_0 := (HB.out.cell (World.block_lt_of_cell? w _ hx106_0)).trans hx106_0; replace p106 := eq_true p106; replace q106 := eq_true q106) | (go_at_call 57; (with_reducible refine (gooseneckref06_within.calls (rd l0_2 x3_3) 1 1073741824 true _ A21.out).mono ?_); rintro e w' ⟨rfl, ⟨nd, rfl⟩⟩))
                go_roundg k3
                case measure => have := HJ1.out; have := HJ7.out; have := HK3.out; omega
                case rel => exact ⟨(wrap64 (x3_3 + 1)), (by first | rfl | (simp; done) | (simp [*]; done)), H', ⟨by have := HJ1.out; have := HJ7.out; have := HK3.out; omega⟩, ⟨by (with_reducible repeat (first | refine blk_drewN ?_ _ | refine blk_drew ?_ | refine blk_alloc ?_ _)); exact BK101.out⟩, ⟨by repeat (first | (with_reducible first | exact HB.out | apply below_alloc | apply pw_below_drewN | apply below_drew1 | refine below_set ?_ GE101.out) | exact HB.out)⟩⟩
               ·replace c22 := Bool.eq_false_iff.mpr c22
                subst c22
                have H1 : (some 2) = some r := by rw [if_neg (show ¬ (false = true) by decide)] at H; exact H
                clear H
                have H := H1
                clear H1
                obtain rfl := Option.some.inj H
                have hcz24_0 : wr.cell? ⟨gb101, 0, none⟩ = some (.slice A0_0 l0_0.length c0_0) := (blk_cell BK101.out 0).trans rfl
                have hcz24_1 : wr.cell? ⟨gb101, 1, none⟩ = some (.slice A0_1 l0_1.length c0_1) := (blk_cell BK101.out 1).trans rfl
                have hcz24_2 : wr.cell? ⟨gb101, 2, none⟩ = some (.slice A0_2 l0_2.length c0_2) := (blk_cell BK101.out 2).trans rfl
                have hcz24_3 : wr.cell? ⟨gb101, 3, none⟩ = some (.int .i64 a0_3) := (blk_cell BK101.out 3).trans rfl
                have hcz24_4 : wr.cell? ⟨gb101, 4, none⟩ = some (.int .i64 a0_4) := (blk_cell BK101.out 4).trans rfl
                have hcz24_5 : wr.cell? ⟨gb101, 5, none⟩ = some (.int .i64 a0_5) := (blk_cell BK101.out 5).trans rfl
                have hfz24_0 := blk_frozen BK101.out 0
                have hfz24_1 := blk_frozen BK101.out 1
                have hfz24_2 := blk_frozen BK101.out 2
                have hfz24_3 := blk_frozen BK101.out 3
                have hfz24_4 := blk_frozen BK101.out 4
                have hfz24_5 := blk_frozen BK101.out 5
                have p102 : 0 ≤ (x3_3 : Int) := of_decide_eq_true (by first | (with_reducible assumption) | assumption)
                have q102 : x3_3 < (l0_0.length : Int) := of_decide_eq_true (by first | (with_reducible assumption) | assumption)
                obtain ⟨ad102, e102, hx102_0⟩ := Kd.at_int HR0_0.out x3_3 p102 q102
                cases e102
                replace hx102_0 := (HB.out.cell (World.block_lt_of_cell? w _ hx102_0)).trans hx102_0
                replace p102 := eq_true p102
                replace q102 := eq_true q102
                go_wp2_with (first | ((with_reducible refine gate_callee (f := 57) rfl ?_); refine goesL_ (some 42) rfl rfl Try.func57 (by kernel_rfl) rfl #[.int .i64 (rd l0_0 x3_3), .int .i64 100, .int .i64 131072] rfl (by (try simp only [List.map_toArray, List.map_cons, List.map_nil]); first | done | rfl | (simp only [List.length_drop, List.length_take]; rfl)) ?_; (with_reducible refine (gooseneckref06_within.calls (rd l0_0 x3_3) 100 131072 true _ A15.out).mono ?_); rintro e w' ⟨rfl, ⟨nd, rfl⟩⟩; refine ⟨_, rfl, ?_⟩; have p104 : 0 ≤ (x3_3 : Int) := of_decide_eq_true (by first | (with_reducible assumption) | assumption); have q104 : x3_3 < (l0_1.length : Int) := of_decide_eq_true (by first | (with_reducible assumption) | assumption); obtain ⟨ad104, e104, hx104_0⟩ := Kd.at_int HR0_1.out x3_3 p104 q104; cases e104; replace hx104_0 := (HB.out.cell (World.block_lt_of_cell? w _ hx104_0)).trans hx104_0; replace p104 := eq_true p104; replace q104 := eq_true q104) | (go_at_call 57; (with_reducible refine (gooseneckref06_within.calls (rd l0_1 x3_3) 1 1073741824 true _ A18.out).mono ?_); rintro e w' ⟨rfl, ⟨nd, rfl⟩⟩; have p106 : 0 ≤ (x3_3 : Int) := of_decide_eq_true (by first | (with_reducible assumption) | assumption); have q106 : x3_3 < (l0_2.length : Int) := of_decide_eq_true (by first | (with_reducible assumption) | assumption); obtain ⟨ad106, e106, hx106_0⟩ := Kd.at_int HR0_2.out x3_3 p106 q106; cases e106; replace hx106_0 := (HB.out.cell (World.block_lt_of_cell? w _ hx106_0)).trans hx106_0; replace p106 := eq_true p106; replace q106 := eq_true q106) | (go_at_call 57; (with_reducible refine (gooseneckref06_within.calls (rd l0_2 x3_3) 1 1073741824 false _ A21.out).mono ?_); rintro e w' ⟨rfl, ⟨nd, rfl⟩⟩))
                go_ret
                exact ⟨by first | rfl | (simp [errW_none, errW_some] <;> rfl) | (simp [*, errW_none, errW_some] <;> rfl), by repeat (first | (with_reducible first | exact HB.out | apply below_alloc | apply pw_below_drewN | apply below_drew1 | refine below_set ?_ GE101.out) | exact HB.out)⟩
              ·rw [if_neg c20] at H
               exact absurd H (by simp)
             ·replace c19 := Bool.eq_false_iff.mpr c19
              subst c19
              have H1 : (some 2) = some r := by rw [if_neg (show ¬ (false = true) by decide)] at H; exact H
              clear H
              have H := H1
              clear H1
              obtain rfl := Option.some.inj H
              have hcz25_0 : wr.cell? ⟨gb101, 0, none⟩ = some (.slice A0_0 l0_0.length c0_0) := (blk_cell BK101.out 0).trans rfl
              have hcz25_1 : wr.cell? ⟨gb101, 1, none⟩ = some (.slice A0_1 l0_1.length c0_1) := (blk_cell BK101.out 1).trans rfl
              have hcz25_2 : wr.cell? ⟨gb101, 2, none⟩ = some (.slice A0_2 l0_2.length c0_2) := (blk_cell BK101.out 2).trans rfl
              have hcz25_3 : wr.cell? ⟨gb101, 3, none⟩ = some (.int .i64 a0_3) := (blk_cell BK101.out 3).trans rfl
              have hcz25_4 : wr.cell? ⟨gb101, 4, none⟩ = some (.int .i64 a0_4) := (blk_cell BK101.out 4).trans rfl
              have hcz25_5 : wr.cell? ⟨gb101, 5, none⟩ = some (.int .i64 a0_5) := (blk_cell BK101.out 5).trans rfl
              have hfz25_0 := blk_frozen BK101.out 0
              have hfz25_1 := blk_frozen BK101.out 1
              have hfz25_2 := blk_frozen BK101.out 2
              have hfz25_3 := blk_frozen BK101.out 3
              have hfz25_4 := blk_frozen BK101.out 4
              have hfz25_5 := blk_frozen BK101.out 5
              have p102 : 0 ≤ (x3_3 : Int) := of_decide_eq_true (by first | (with_reducible assumption) | assumption)
              have q102 : x3_3 < (l0_0.length : Int) := of_decide_eq_true (by first | (with_reducible assumption) | assumption)
              obtain ⟨ad102, e102, hx102_0⟩ := Kd.at_int HR0_0.out x3_3 p102 q102
              cases e102
              replace hx102_0 := (HB.out.cell (World.block_lt_of_cell? w _ hx102_0)).trans hx102_0
              replace p102 := eq_true p102
              replace q102 := eq_true q102
              go_wp2_with (first | ((with_reducible refine gate_callee (f := 57) rfl ?_); refine goesL_ (some 42) rfl rfl Try.func57 (by kernel_rfl) rfl #[.int .i64 (rd l0_0 x3_3), .int .i64 100, .int .i64 131072] rfl (by (try simp only [List.map_toArray, List.map_cons, List.map_nil]); first | done | rfl | (simp only [List.length_drop, List.length_take]; rfl)) ?_; (with_reducible refine (gooseneckref06_within.calls (rd l0_0 x3_3) 100 131072 true _ A15.out).mono ?_); rintro e w' ⟨rfl, ⟨nd, rfl⟩⟩; refine ⟨_, rfl, ?_⟩; have p104 : 0 ≤ (x3_3 : Int) := of_decide_eq_true (by first | (with_reducible assumption) | assumption); have q104 : x3_3 < (l0_1.length : Int) := of_decide_eq_true (by first | (with_reducible assumption) | assumption); obtain ⟨ad104, e104, hx104_0⟩ := Kd.at_int HR0_1.out x3_3 p104 q104; cases e104; replace hx104_0 := (HB.out.cell (World.block_lt_of_cell? w _ hx104_0)).trans hx104_0; replace p104 := eq_true p104; replace q104 := eq_true q104) | (go_at_call 57; (with_reducible refine (gooseneckref06_within.calls (rd l0_1 x3_3) 1 1073741824 false _ A18.out).mono ?_); rintro e w' ⟨rfl, ⟨nd, rfl⟩⟩))
              go_ret
              exact ⟨by first | rfl | (simp [errW_none, errW_some] <;> rfl) | (simp [*, errW_none, errW_some] <;> rfl), by repeat (first | (with_reducible first | exact HB.out | apply below_alloc | apply pw_below_drewN | apply below_drew1 | refine below_set ?_ GE101.out) | exact HB.out)⟩
            ·rw [if_neg c17] at H
             exact absurd H (by simp)
           ·replace c16 := Bool.eq_false_iff.mpr c16
            subst c16
            have H1 : (some 2) = some r := by rw [if_neg (show ¬ (false = true) by decide)] at H; exact H
            clear H
            have H := H1
            clear H1
            obtain rfl := Option.some.inj H
            have hcz26_0 : wr.cell? ⟨gb101, 0, none⟩ = some (.slice A0_0 l0_0.length c0_0) := (blk_cell BK101.out 0).trans rfl
            have hcz26_1 : wr.cell? ⟨gb101, 1, none⟩ = some (.slice A0_1 l0_1.length c0_1) := (blk_cell BK101.out 1).trans rfl
            have hcz26_2 : wr.cell? ⟨gb101, 2, none⟩ = some (.slice A0_2 l0_2.length c0_2) := (blk_cell BK101.out 2).trans rfl
            have hcz26_3 : wr.cell? ⟨gb101, 3, none⟩ = some (.int .i64 a0_3) := (blk_cell BK101.out 3).trans rfl
            have hcz26_4 : wr.cell? ⟨gb101, 4, none⟩ = some (.int .i64 a0_4) := (blk_cell BK101.out 4).trans rfl
            have hcz26_5 : wr.cell? ⟨gb101, 5, none⟩ = some (.int .i64 a0_5) := (blk_cell BK101.out 5).trans rfl
            have hfz26_0 := blk_frozen BK101.out 0
            have hfz26_1 := blk_frozen BK101.out 1
            have hfz26_2 := blk_frozen BK101.out 2
            have hfz26_3 := blk_frozen BK101.out 3
            have hfz26_4 := blk_frozen BK101.out 4
            have hfz26_5 := blk_frozen BK101.out 5
            have p102 : 0 ≤ (x3_3 : Int) := of_decide_eq_true (by first | (with_reducible assumption) | assumption)
            have q102 : x3_3 < (l0_0.length : Int) := of_decide_eq_true (by first | (with_reducible assumption) | assumption)
            obtain ⟨ad102, e102, hx102_0⟩ := Kd.at_int HR0_0.out x3_3 p102 q102
            cases e102
            replace hx102_0 := (HB.out.cell (World.block_lt_of_cell? w _ hx102_0)).trans hx102_0
            replace p102 := eq_true p102
            replace q102 := eq_true q102
            go_wp2_with (first | ((with_reducible refine gate_callee (f := 57) rfl ?_); refine goesL_ (some 42) rfl rfl Try.func57 (by kernel_rfl) rfl #[.int .i64 (rd l0_0 x3_3), .int .i64 100, .int .i64 131072] rfl (by (try simp only [List.map_toArray, List.map_cons, List.map_nil]); first | done | rfl | (simp only [List.length_drop, List.length_take]; rfl)) ?_; (with_reducible refine (gooseneckref06_within.calls (rd l0_0 x3_3) 100 131072 false _ A15.out).mono ?_); rintro e w' ⟨rfl, ⟨nd, rfl⟩⟩; refine ⟨_, rfl, ?_⟩))
            go_ret
            exact ⟨by first | rfl | (simp [errW_none, errW_some] <;> rfl) | (simp [*, errW_none, errW_some] <;> rfl), by repeat (first | (with_reducible first | exact HB.out | apply below_alloc | apply pw_below_drewN | apply below_drew1 | refine below_set ?_ GE101.out) | exact HB.out)⟩
          ·rw [if_neg c14] at H
           exact absurd H (by simp)
         ·rw [if_neg c13] at H
          have c13b0 : decide (x3_3 < (l0_0.length : Int)) = false := decide_eq_false c13
          clear c13
          replace H := Option.bind_eq_some_iff.mp H
          obtain ⟨t108, A270, H⟩ := H
          replace H : (if t108 = true then (if a0_4 < 1 then (some 2) else (if a0_4 > 4 then (some 2) else ((gooseneckref06_within.f a0_5 0 4096).bind fun t109 => (if t109 = true then (some 0) else (some 2))))) else (some 2)) = some r := H
          have A27 := Aside0.mk A270
          clear A270
          by_cases c28 : t108 = true
          ·subst c28
           have H1 : (if a0_4 < 1 then (some 2) else (if a0_4 > 4 then (some 2) else ((gooseneckref06_within.f a0_5 0 4096).bind fun t109 => (if t109 = true then (some 0) else (some 2))))) = some r := by rw [if_pos rfl] at H; exact H
           clear H
           have H := H1
           clear H1
           by_cases c29 : a0_4 < 1
           ·rw [if_pos c29] at H
            have c29b0 : decide (a0_4 < 1) = true := decide_eq_true c29
            clear c29
            obtain rfl := Option.some.inj H
            have hcz30_0 : wr.cell? ⟨gb101, 0, none⟩ = some (.slice A0_0 l0_0.length c0_0) := (blk_cell BK101.out 0).trans rfl
            have hcz30_1 : wr.cell? ⟨gb101, 1, none⟩ = some (.slice A0_1 l0_1.length c0_1) := (blk_cell BK101.out 1).trans rfl
            have hcz30_2 : wr.cell? ⟨gb101, 2, none⟩ = some (.slice A0_2 l0_2.length c0_2) := (blk_cell BK101.out 2).trans rfl
            have hcz30_3 : wr.cell? ⟨gb101, 3, none⟩ = some (.int .i64 a0_3) := (blk_cell BK101.out 3).trans rfl
            have hcz30_4 : wr.cell? ⟨gb101, 4, none⟩ = some (.int .i64 a0_4) := (blk_cell BK101.out 4).trans rfl
            have hcz30_5 : wr.cell? ⟨gb101, 5, none⟩ = some (.int .i64 a0_5) := (blk_cell BK101.out 5).trans rfl
            have hfz30_0 := blk_frozen BK101.out 0
            have hfz30_1 := blk_frozen BK101.out 1
            have hfz30_2 := blk_frozen BK101.out 2
            have hfz30_3 := blk_frozen BK101.out 3
            have hfz30_4 := blk_frozen BK101.out 4
            have hfz30_5 := blk_frozen BK101.out 5
            go_wp2_with (first | ((with_reducible refine gate_callee (f := 57) rfl ?_); refine goesL_ (some 64) rfl rfl Try.func57 (by kernel_rfl) rfl #[.int .i64 a0_3, .int .i64 0, .int .i64 1000] rfl (by (try simp only [List.map_toArray, List.map_cons, List.map_nil]); first | done | rfl | (simp only [List.length_drop, List.length_take]; rfl)) ?_; (with_reducible refine (gooseneckref06_within.calls a0_3 0 1000 true _ A27.out).mono ?_); rintro e w' ⟨rfl, ⟨nd, rfl⟩⟩; refine ⟨_, rfl, ?_⟩))
            go_ret
            exact ⟨by first | rfl | (simp [errW_none, errW_some] <;> rfl) | (simp [*, errW_none, errW_some] <;> rfl), by repeat (first | (with_reducible first | exact HB.out | apply below_alloc | apply pw_below_drewN | apply below_drew1 | refine below_set ?_ GE101.out) | exact HB.out)⟩
           ·rw [if_neg c29] at H
            have c29b0 : decide (a0_4 < 1) = false := decide_eq_false c29
            clear c29
            by_cases c31 : a0_4 > 4
            ·rw [if_pos c31] at H
             have c31b0 : decide (4 < a0_4) = true := decide_eq_true c31
             clear c31
             obtain rfl := Option.some.inj H
             have hcz32_0 : wr.cell? ⟨gb101, 0, none⟩ = some (.slice A0_0 l0_0.length c0_0) := (blk_cell BK101.out 0).trans rfl
             have hcz32_1 : wr.cell? ⟨gb101, 1, none⟩ = some (.slice A0_1 l0_1.length c0_1) := (blk_cell BK101.out 1).trans rfl
             have hcz32_2 : wr.cell? ⟨gb101, 2, none⟩ = some (.slice A0_2 l0_2.length c0_2) := (blk_cell BK101.out 2).trans rfl
             have hcz32_3 : wr.cell? ⟨gb101, 3, none⟩ = some (.int .i64 a0_3) := (blk_cell BK101.out 3).trans rfl
             have hcz32_4 : wr.cell? ⟨gb101, 4, none⟩ = some (.int .i64 a0_4) := (blk_cell BK101.out 4).trans rfl
             have hcz32_5 : wr.cell? ⟨gb101, 5, none⟩ = some (.int .i64 a0_5) := (blk_cell BK101.out 5).trans rfl
             have hfz32_0 := blk_frozen BK101.out 0
             have hfz32_1 := blk_frozen BK101.out 1
             have hfz32_2 := blk_frozen BK101.out 2
             have hfz32_3 := blk_frozen BK101.out 3
             have hfz32_4 := blk_frozen BK101.out 4
             have hfz32_5 := blk_frozen BK101.out 5
             go_wp2_with (first | ((with_reducible refine gate_callee (f := 57) rfl ?_); refine goesL_ (some 64) rfl rfl Try.func57 (by kernel_rfl) rfl #[.int .i64 a0_3, .int .i64 0, .int .i64 1000] rfl (by (try simp only [List.map_toArray, List.map_cons, List.map_nil]); first | done | rfl | (simp only [List.length_drop, List.length_take]; rfl)) ?_; (with_reducible refine (gooseneckref06_within.calls a0_3 0 1000 true _ A27.out).mono ?_); rintro e w' ⟨rfl, ⟨nd, rfl⟩⟩; refine ⟨_, rfl, ?_⟩))
             go_ret
             exact ⟨by first | rfl | (simp [errW_none, errW_some] <;> rfl) | (simp [*, errW_none, errW_some] <;> rfl), by repeat (first | (with_reducible first | exact HB.out | apply below_alloc | apply pw_below_drewN | apply below_drew1 | refine below_set ?_ GE101.out) | exact HB.out)⟩
            ·rw [if_neg c31] at H
             have c31b0 : decide (4 < a0_4) = false := decide_eq_false c31
             clear c31
             replace H := Option.bind_eq_some_iff.mp H
             obtain ⟨t109, A330, H⟩ := H
             replace H : (if t109 = true then (some 0) else (some 2)) = some r := H
             have A33 := Aside0.mk A330
             clear A330
             by_cases c34 : t109 = true
             ·subst c34
              have H1 : (some 0) = some r := by rw [if_pos rfl] at H; exact H
              clear H
              have H := H1
              clear H1
              obtain rfl := Option.some.inj H
              have hcz35_0 : wr.cell? ⟨gb101, 0, none⟩ = some (.slice A0_0 l0_0.length c0_0) := (blk_cell BK101.out 0).trans rfl
              have hcz35_1 : wr.cell? ⟨gb101, 1, none⟩ = some (.slice A0_1 l0_1.length c0_1) := (blk_cell BK101.out 1).trans rfl
              have hcz35_2 : wr.cell? ⟨gb101, 2, none⟩ = some (.slice A0_2 l0_2.length c0_2) := (blk_cell BK101.out 2).trans rfl
              have hcz35_3 : wr.cell? ⟨gb101, 3, none⟩ = some (.int .i64 a0_3) := (blk_cell BK101.out 3).trans rfl
              have hcz35_4 : wr.cell? ⟨gb101, 4, none⟩ = some (.int .i64 a0_4) := (blk_cell BK101.out 4).trans rfl
              have hcz35_5 : wr.cell? ⟨gb101, 5, none⟩ = some (.int .i64 a0_5) := (blk_cell BK101.out 5).trans rfl
              have hfz35_0 := blk_frozen BK101.out 0
              have hfz35_1 := blk_frozen BK101.out 1
              have hfz35_2 := blk_frozen BK101.out 2
              have hfz35_3 := blk_frozen BK101.out 3
              have hfz35_4 := blk_frozen BK101.out 4
              have hfz35_5 := blk_frozen BK101.out 5
              go_wp2_with (first | ((with_reducible refine gate_callee (f := 57) rfl ?_); refine goesL_ (some 64) rfl rfl Try.func57 (by kernel_rfl) rfl #[.int .i64 a0_3, .int .i64 0, .int .i64 1000] rfl (by (try simp only [List.map_toArray, List.map_cons, List.map_nil]); first | done | rfl | (simp only [List.length_drop, List.length_take]; rfl)) ?_; (with_reducible refine (gooseneckref06_within.calls a0_3 0 1000 true _ A27.out).mono ?_); rintro e w' ⟨rfl, ⟨nd, rfl⟩⟩; refine ⟨_, rfl, ?_⟩) | (go_at_call 57; (with_reducible refine (gooseneckref06_within.calls a0_5 0 4096 true _ A33.out).mono ?_); rintro e w' ⟨rfl, ⟨nd, rfl⟩⟩))
              go_ret
              exact ⟨by first | rfl | (simp [errW_none, errW_some] <;> rfl) | (simp [*, errW_none, errW_some] <;> rfl), by repeat (first | (with_reducible first | exact HB.out | apply below_alloc | apply pw_below_drewN | apply below_drew1 | refine below_set ?_ GE101.out) | exact HB.out)⟩
             ·replace c34 := Bool.eq_false_iff.mpr c34
              subst c34
              have H1 : (some 2) = some r := by rw [if_neg (show ¬ (false = true) by decide)] at H; exact H
              clear H
              have H := H1
              clear H1
              obtain rfl := Option.some.inj H
              have hcz36_0 : wr.cell? ⟨gb101, 0, none⟩ = some (.slice A0_0 l0_0.length c0_0) := (blk_cell BK101.out 0).trans rfl
              have hcz36_1 : wr.cell? ⟨gb101, 1, none⟩ = some (.slice A0_1 l0_1.length c0_1) := (blk_cell BK101.out 1).trans rfl
              have hcz36_2 : wr.cell? ⟨gb101, 2, none⟩ = some (.slice A0_2 l0_2.length c0_2) := (blk_cell BK101.out 2).trans rfl
              have hcz36_3 : wr.cell? ⟨gb101, 3, none⟩ = some (.int .i64 a0_3) := (blk_cell BK101.out 3).trans rfl
              have hcz36_4 : wr.cell? ⟨gb101, 4, none⟩ = some (.int .i64 a0_4) := (blk_cell BK101.out 4).trans rfl
              have hcz36_5 : wr.cell? ⟨gb101, 5, none⟩ = some (.int .i64 a0_5) := (blk_cell BK101.out 5).trans rfl
              have hfz36_0 := blk_frozen BK101.out 0
              have hfz36_1 := blk_frozen BK101.out 1
              have hfz36_2 := blk_frozen BK101.out 2
              have hfz36_3 := blk_frozen BK101.out 3
              have hfz36_4 := blk_frozen BK101.out 4
              have hfz36_5 := blk_frozen BK101.out 5
              go_wp2_with (first | ((with_reducible refine gate_callee (f := 57) rfl ?_); refine goesL_ (some 64) rfl rfl Try.func57 (by kernel_rfl) rfl #[.int .i64 a0_3, .int .i64 0, .int .i64 1000] rfl (by (try simp only [List.map_toArray, List.map_cons, List.map_nil]); first | done | rfl | (simp only [List.length_drop, List.length_take]; rfl)) ?_; (with_reducible refine (gooseneckref06_within.calls a0_3 0 1000 true _ A27.out).mono ?_); rintro e w' ⟨rfl, ⟨nd, rfl⟩⟩; refine ⟨_, rfl, ?_⟩) | (go_at_call 57; (with_reducible refine (gooseneckref06_within.calls a0_5 0 4096 false _ A33.out).mono ?_); rintro e w' ⟨rfl, ⟨nd, rfl⟩⟩))
              go_ret
              exact ⟨by first | rfl | (simp [errW_none, errW_some] <;> rfl) | (simp [*, errW_none, errW_some] <;> rfl), by repeat (first | (with_reducible first | exact HB.out | apply below_alloc | apply pw_below_drewN | apply below_drew1 | refine below_set ?_ GE101.out) | exact HB.out)⟩
          ·replace c28 := Bool.eq_false_iff.mpr c28
           subst c28
           have H1 : (some 2) = some r := by rw [if_neg (show ¬ (false = true) by decide)] at H; exact H
           clear H
           have H := H1
           clear H1
           obtain rfl := Option.some.inj H
           have hcz37_0 : wr.cell? ⟨gb101, 0, none⟩ = some (.slice A0_0 l0_0.length c0_0) := (blk_cell BK101.out 0).trans rfl
           have hcz37_1 : wr.cell? ⟨gb101, 1, none⟩ = some (.slice A0_1 l0_1.length c0_1) := (blk_cell BK101.out 1).trans rfl
           have hcz37_2 : wr.cell? ⟨gb101, 2, none⟩ = some (.slice A0_2 l0_2.length c0_2) := (blk_cell BK101.out 2).trans rfl
           have hcz37_3 : wr.cell? ⟨gb101, 3, none⟩ = some (.int .i64 a0_3) := (blk_cell BK101.out 3).trans rfl
           have hcz37_4 : wr.cell? ⟨gb101, 4, none⟩ = some (.int .i64 a0_4) := (blk_cell BK101.out 4).trans rfl
           have hcz37_5 : wr.cell? ⟨gb101, 5, none⟩ = some (.int .i64 a0_5) := (blk_cell BK101.out 5).trans rfl
           have hfz37_0 := blk_frozen BK101.out 0
           have hfz37_1 := blk_frozen BK101.out 1
           have hfz37_2 := blk_frozen BK101.out 2
           have hfz37_3 := blk_frozen BK101.out 3
           have hfz37_4 := blk_frozen BK101.out 4
           have hfz37_5 := blk_frozen BK101.out 5
           go_wp2_with (first | ((with_reducible refine gate_callee (f := 57) rfl ?_); refine goesL_ (some 64) rfl rfl Try.func57 (by kernel_rfl) rfl #[.int .i64 a0_3, .int .i64 0, .int .i64 1000] rfl (by (try simp only [List.map_toArray, List.map_cons, List.map_nil]); first | done | rfl | (simp only [List.length_drop, List.length_take]; rfl)) ?_; (with_reducible refine (gooseneckref06_within.calls a0_3 0 1000 false _ A27.out).mono ?_); rintro e w' ⟨rfl, ⟨nd, rfl⟩⟩; refine ⟨_, rfl, ?_⟩))
           go_ret
           exact ⟨by first | rfl | (simp [errW_none, errW_some] <;> rfl) | (simp [*, errW_none, errW_some] <;> rfl), by repeat (first | (with_reducible first | exact HB.out | apply below_alloc | apply pw_below_drewN | apply below_drew1 | refine below_set ?_ GE101.out) | exact HB.out)⟩
end Go.Proofs.Ytiklpefckadgdaa.P
noncomputable section
namespace Go.Proofs.Ytiklpefckadgdaa.P
open Go.RowKit Go.Proofs.YtiklpefckadgdaaW.PrintWords Go.Proofs.YtiklpefckadgdaaW.PrintLast Go.Proofs.YtiklpefckadgdaaW.PrintMore
attribute [local go_sem] max2_int min2_int max_two min_two max_three min_three max_four min_four   -- for this text's walks alone
set_option linter.unusedVariables false
set_option linter.unusedSimpArgs false
def gooseneckref06_Points.l0 : Nat → Int → List Int → Int → Option (List Int)
 | 0, _, _, _ => none
 | k + 1, x0, x3, x4 => if x4 ≤ 15 then (if x3.length < 17592186044416 then (gooseneckref06_Points.l0 k x0 (x3 ++ [wrap64 (Int.tdiv (wrap64 (x0 * x4)) 16)]) (wrap64 (x4 + 1))) else (none)) else (some x3)
def gooseneckref06_Points.f (k : Nat) (a0 : Int) : Option (List Int) := gooseneckref06_Points.l0 k a0 ([] : List Int) 1
theorem gooseneckref06_Points.mono_l : ∀ k, (∀ y0 y1 y2, LeO (gooseneckref06_Points.l0 k y0 y1 y2) (gooseneckref06_Points.l0 (k + 1) y0 y1 y2))
 | 0 => fun _ _ _ r h => by simp [gooseneckref06_Points.l0] at h
 | k + 1 => by
  have ih0 := gooseneckref06_Points.mono_l k
  ·intro y0 y1 y2
   unfold gooseneckref06_Points.l0
   repeat' first
   | (with_reducible exact ih0 _ _ _)
   | (with_reducible exact LeO.refl _)
   | (with_reducible exact LeO.none _)
   | (with_reducible refine LeO.ite ?_ ?_)
   | (with_reducible refine LeO.bind ?_ (fun _ => ?_))
   | exact ih0 _ _ _
   | exact LeO.none _
   | refine LeO.ite ?_ ?_
   | refine LeO.bind ?_ (fun _ => ?_)
theorem gooseneckref06_Points.mono : ∀ a0 k, LeO (gooseneckref06_Points.f k a0) (gooseneckref06_Points.f (k + 1) a0) := by
 intro a0 k
 have ih0 := gooseneckref06_Points.mono_l k
 unfold gooseneckref06_Points.f
 repeat' first
   | (with_reducible exact ih0 _ _ _)
   | (with_reducible exact LeO.refl _)
   | (with_reducible exact LeO.none _)
   | (with_reducible refine LeO.ite ?_ ?_)
   | (with_reducible refine LeO.bind ?_ (fun _ => ?_))
   | exact ih0 _ _ _
   | exact LeO.none _
   | refine LeO.ite ?_ ?_
   | refine LeO.bind ?_ (fun _ => ?_)
set_option maxHeartbeats 8000000 in
set_option maxRecDepth 100000 in
theorem gooseneckref06_Points.calls (k : Nat) (a0 : Int) (r : List Int) (w : World) (h : gooseneckref06_Points.f k a0 = some r) :
  Calls Try.prog 31 #[.int .i64 a0] w fun e w' => ∃ v0_ : Value, e = .returned (v0_) ∧ Kd.R (Kd.int .i64) 2 w' w.heap.size (fun _ => True) v0_ r ∧ Below w.heap.size w w' := by
 have HB := Aside0.mk (Below.refl w.heap.size w)
 have H : (gooseneckref06_Points.l0 k a0 ([] : List Int) 1) = some r := h
 clear h
 have H' := Aside0.mk H
 clear H
 go_enter Try.func31, Try.ntmps31
 go_wp2
 go_loopg [3, 4] k (fun kq v3 v4 w' => ∃ (x3_1 : List Int) (x4_1 : Int), v4 = .int .i64 x4_1 ∧ Aside0 (gooseneckref06_Points.l0 kq a0 x3_1 x4_1 = some r) ∧ Aside0 (kq ≤ k) ∧ Aside0 (Kd.R (Kd.int .i64) 2 w' w.heap.size (fun _ => True) v3 x3_1) ∧ Aside0 (Below w.heap.size w w'))
 case atStart => exact ⟨(([] : List Int)), (1), (by first | rfl | (simp; done) | (simp [*]; done)), H', ⟨Nat.le_refl _⟩, ⟨by first | exact Kd.R_nil _ _ _ _ _ | exact Kd.N_nil _ _ _ _ _ | exact Kd.V_nil _ _ _ _ _ | exact Kd.Q_nil _ _ _ _ _ | exact Kd.S_nil _ _ _ _ _⟩, ⟨by repeat (first | (with_reducible first | exact HB.out | apply below_alloc | apply pw_below_drewN | apply below_drew1) | exact HB.out)⟩⟩
 case round =>
  clear H'
  obtain ⟨x3_1, x4_1, rfl, HA, HK1, HO_3, HB⟩ := hrel
  cases gk with
  | zero => exact absurd HA.out (by simp [gooseneckref06_Points.l0])
  | succ k1 =>
   have H := HA.out
   clear HA
   simp only [gooseneckref06_Points.l0] at H
   by_cases c2 : x4_1 ≤ 15
   ·rw [if_pos c2] at H
    have c2b0 : decide (x4_1 ≤ 15) = true := decide_eq_true c2
    clear c2
    by_cases c3 : x3_1.length < 17592186044416
    ·rw [if_pos c3] at H
     have LMc3 := Aside0.mk c3
     clear c3
     obtain ⟨y101, hy101⟩ : ∃ y_ : List Int, y_ = (x3_1 ++ [wrap64 (Int.tdiv (wrap64 (a0 * x4_1)) 16)]) := ⟨_, rfl⟩
     replace H : (gooseneckref06_Points.l0 k1 a0 y101 (wrap64 (x4_1 + 1))) = some r := by first | (rw [hy101]; with_reducible exact H) | (have H2_ := (Option.bind_some _ _).symm.trans H; rw [hy101]; with_reducible exact H2_) | (have H2_ := (Option.bind_some _ _).symm.trans H; with_reducible exact H2_) | with_reducible exact H | (rw [hy101]; exact H) | exact H
     have Ny101 := Aside0.mk hy101
     clear hy101
     have H' := Aside0.mk H
     clear H
     go_wp2_with (first | ((with_reducible refine gate_builtin (b := .append) (xs := #[.tmp 9, .tmp 14]) rfl ?_); at_builtin; refine Kd.R_append (Kd.int .i64) (w0 := w) w.heap.size rfl (.tmp 9) (.tmp 14) 22 2 (.int .i64 0) 8 rfl Try.underlying22 info2 rfl (by decide) (by omega) u3 x3_1 (wrap64 (Int.tdiv (wrap64 (a0 * x4_1)) 16)) [.int .i64 (wrap64 (Int.tdiv (wrap64 (a0 * x4_1)) 16))] (fun _ => True) (fun _ => False) rfl rfl ?aP (fun _ hk => hk.elim) ?aF ?aO ?aB ?aS ?aL ?_; (case aP => exact rfl); (case aB => exact (by repeat (first | (with_reducible first | exact HB.out | apply below_alloc | apply pw_below_drewN | apply below_drew1) | exact HB.out))); (case aF => exact (fun _ _ => trivial)); (case aO => exact (by (with_reducible repeat (first | apply Kd.R_alloc | apply Kd.R_drewN | apply Kd.R_drew)); exact HO_3.out)); (case aS => exact (below_size (by repeat (first | (with_reducible first | exact HB.out | apply below_alloc | apply pw_below_drewN | apply below_drew1) | exact HB.out)))); (case aL => have := LMc3.out; omega); intro v102 w4 ho hb hg hat; rw [← Ny101.out] at ho; have n0_ := Aside0.mk (hb); have n1_ := Aside0.mk (ho); clear HB; clear HO_3; have HB := n0_; have HO103 := n1_; clear n0_ n1_; clear ho hb hg hat))
     go_roundg k1
     case measure => have := HK1.out; omega
     case rel => exact ⟨(y101), (wrap64 (x4_1 + 1)), (by first | rfl | (simp; done) | (simp [*]; done)), H', ⟨by have := HK1.out; omega⟩, ⟨by (with_reducible repeat (first | apply Kd.R_alloc | apply Kd.R_drewN | apply Kd.R_drew)); exact HO103.out⟩, ⟨by repeat (first | (with_reducible first | exact HB.out | apply below_alloc | apply pw_below_drewN | apply below_drew1) | exact HB.out)⟩⟩
    ·rw [if_neg c3] at H
     exact absurd H (by simp)
   ·rw [if_neg c2] at H
    have c2b0 : decide (x4_1 ≤ 15) = false := decide_eq_false c2
    clear c2
    obtain rfl := Option.some.inj H
    go_wp2
    go_ret
    exact ⟨_, by first | rfl | (simp [errW_none, errW_some] <;> rfl) | (simp [*, errW_none, errW_some] <;> rfl), by (with_reducible repeat (first | apply Kd.R_alloc | apply Kd.R_drewN | apply Kd.R_drew)); exact HO_3.out, by repeat (first | (with_reducible first | exact HB.out | apply below_alloc | apply pw_below_drewN | apply below_drew1) | exact HB.out)⟩
end Go.Proofs.Ytiklpefckadgdaa.P
noncomputable section
namespace Go.Proofs.Ytiklpefckadgdaa.P
open Go.RowKit Go.Proofs.YtiklpefckadgdaaW.PrintWords Go.Proofs.YtiklpefckadgdaaW.PrintLast Go.Proofs.YtiklpefckadgdaaW.PrintMore
attribute [local go_sem] max2_int min2_int max_two min_two max_three min_three max_four min_four   -- for this text's walks alone
set_option linter.unusedVariables false
set_option linter.unusedSimpArgs false
def gooseneckref06_up.f (a0 : Int) (a1 : Int) : Option (Int) := if a1 = 0 then (none) else (some (wrap64 (Int.tdiv (wrap64 ((wrap64 (a0 + a1)) - 1)) a1)))
set_option maxHeartbeats 8000000 in
set_option maxRecDepth 100000 in
theorem gooseneckref06_up.calls (a0 : Int) (a1 : Int) (r : Int) (w : World) (h : gooseneckref06_up.f a0 a1 = some r) :
  Calls Try.prog 58 #[.int .i64 a0, .int .i64 a1] w fun e w' => e = .returned (.int .i64 r) ∧ Drawn0 w w' := by
 have H : (if a1 = 0 then (none) else (some (wrap64 (Int.tdiv (wrap64 ((wrap64 (a0 + a1)) - 1)) a1)))) = some r := h
 clear h
 by_cases c3 : a1 = 0
 ·rw [if_pos c3] at H
  exact absurd H (by simp)
 ·rw [if_neg c3] at H
  have c3b0 : (a1 == 0) = false := beq_eq_false_iff_ne.mpr c3
  have c3b1 : (a1 != 0) = true := bne_iff_ne.mpr c3
  obtain rfl := Option.some.inj H
  go_enter Try.func58, Try.ntmps58
  go_wp2
  go_ret
  exact ⟨by first | rfl | (simp; done) | (simp [*]; done), by repeat (first | exact Drawn0.refl _ | apply Drawn0.step)⟩
end Go.Proofs.Ytiklpefckadgdaa.P
noncomputable section
namespace Go.Proofs.Ytiklpefckadgdaa.P
open Go.RowKit Go.Proofs.YtiklpefckadgdaaW.PrintWords Go.Proofs.YtiklpefckadgdaaW.PrintLast Go.Proofs.YtiklpefckadgdaaW.PrintMore
attribute [local go_sem] max2_int min2_int max_two min_two max_three min_three max_four min_four   -- for this text's walks alone
set_option linter.unusedVariables false
set_option linter.unusedSimpArgs false
def gooseneckref02_Floor.f (a0 : Int) (a1 : Int) : Option (Int) := if a1 = 0 then (none) else (if (Int.tmod a0 a1) < 0 then (some (wrap64 ((wrap64 (Int.tdiv a0 a1)) - 1))) else (some (wrap64 (Int.tdiv a0 a1))))
set_option maxHeartbeats 8000000 in
set_option maxRecDepth 100000 in
theorem gooseneckref02_Floor.calls (a0 : Int) (a1 : Int) (r : Int) (w : World) (h : gooseneckref02_Floor.f a0 a1 = some r) :
  Calls Try.prog 93 #[.int .i64 a0, .int .i64 a1] w fun e w' => e = .returned (.int .i64 r) ∧ Drawn0 w w' := by
 have H : (if a1 = 0 then (none) else (if (Int.tmod a0 a1) < 0 then (some (wrap64 ((wrap64 (Int.tdiv a0 a1)) - 1))) else (some (wrap64 (Int.tdiv a0 a1))))) = some r := h
 clear h
 by_cases c3 : a1 = 0
 ·rw [if_pos c3] at H
  exact absurd H (by simp)
 ·rw [if_neg c3] at H
  have c3b0 : (a1 == 0) = false := beq_eq_false_iff_ne.mpr c3
  have c3b1 : (a1 != 0) = true := bne_iff_ne.mpr c3
  by_cases c4 : (Int.tmod a0 a1) < 0
  ·rw [if_pos c4] at H
   have c4b0 : decide ((Int.tmod a0 a1) < 0) = true := decide_eq_true c4
   clear c4
   obtain rfl := Option.some.inj H
   go_enter Try.func93, Try.ntmps93
   go_wp2
   go_ret
   exact ⟨by first | rfl | (simp; done) | (simp [*]; done), by repeat (first | exact Drawn0.refl _ | apply Drawn0.step)⟩
  ·rw [if_neg c4] at H
   have c4b0 : decide ((Int.tmod a0 a1) < 0) = false := decide_eq_false c4
   clear c4
   obtain rfl := Option.some.inj H
   go_enter Try.func93, Try.ntmps93
   go_wp2
   go_ret
   exact ⟨by first | rfl | (simp; done) | (simp [*]; done), by repeat (first | exact Drawn0.refl _ | apply Drawn0.step)⟩
end Go.Proofs.Ytiklpefckadgdaa.P
noncomputable section
namespace Go.Proofs.Ytiklpefckadgdaa.P
open Go.RowKit Go.Proofs.YtiklpefckadgdaaW.PrintWords Go.Proofs.YtiklpefckadgdaaW.PrintLast Go.Proofs.YtiklpefckadgdaaW.PrintMore
attribute [local go_sem] max2_int min2_int max_two min_two max_three min_three max_four min_four   -- for this text's walks alone
set_option linter.unusedVariables false
set_option linter.unusedSimpArgs false
mutual
def gooseneckref04_Down.l0 : Nat → Int → Int → Int → Int → Int → Int → Int → Option (Int)
 | 0, _, _, _, _, _, _, _ => none
 | k + 1, x0, x2, x7, x8, x9, x10, x11 => if x11 ≥ 0 then (if 0 ≤ (IntKind.u64.wrap (x11)) then (if (Int.tmod (shr .i64 x0 (IntKind.u64.wrap (x11))) 2) = 1 then (gooseneckref04_Down.j1 k x0 x2 x7 x8 (wrap64 (2 * x9)) (wrap64 ((wrap64 (2 * x10)) + x8)) x11) else (gooseneckref04_Down.j1 k x0 x2 x7 x8 (wrap64 (2 * x9)) (wrap64 (2 * x10)) x11)) else (none)) else (some (wrap64 ((wrap64 (x7 * x0)) + x9)))
def gooseneckref04_Down.j1 : Nat → Int → Int → Int → Int → Int → Int → Int → Option (Int)
 | 0, _, _, _, _, _, _, _ => none
 | k + 1, x0, x2, x7, x8, x9, x10, x11 => gooseneckref04_Down.l1 k x0 x2 x7 x8 x9 x10 x11
def gooseneckref04_Down.l1 : Nat → Int → Int → Int → Int → Int → Int → Int → Option (Int)
 | 0, _, _, _, _, _, _, _ => none
 | k + 1, x0, x2, x7, x8, x9, x10, x11 => if x10 ≥ x2 then (gooseneckref04_Down.l1 k x0 x2 x7 x8 (wrap64 (x9 + 1)) (wrap64 (x10 - x2)) x11) else (gooseneckref04_Down.l0 k x0 x2 x7 x8 x9 x10 (wrap64 (x11 - 1)))
end
def gooseneckref04_Down.f (k : Nat) (a0 : Int) (a1 : Int) (a2 : Int) : Option (Int) := (gooseneckref02_Floor.f a1 a2).bind fun t101 => (gooseneckref04_Down.l0 k a0 a2 t101 (wrap64 (a1 - (wrap64 (t101 * a2)))) 0 0 30)
theorem gooseneckref04_Down.mono_l : ∀ k, (∀ y0 y1 y2 y3 y4 y5 y6, LeO (gooseneckref04_Down.l0 k y0 y1 y2 y3 y4 y5 y6) (gooseneckref04_Down.l0 (k + 1) y0 y1 y2 y3 y4 y5 y6)) ∧ (∀ y0 y1 y2 y3 y4 y5 y6, LeO (gooseneckref04_Down.j1 k y0 y1 y2 y3 y4 y5 y6) (gooseneckref04_Down.j1 (k + 1) y0 y1 y2 y3 y4 y5 y6)) ∧ (∀ y0 y1 y2 y3 y4 y5 y6, LeO (gooseneckref04_Down.l1 k y0 y1 y2 y3 y4 y5 y6) (gooseneckref04_Down.l1 (k + 1) y0 y1 y2 y3 y4 y5 y6))
 | 0 => ⟨fun _ _ _ _ _ _ _ r h => by simp [gooseneckref04_Down.l0] at h, fun _ _ _ _ _ _ _ r h => by simp [gooseneckref04_Down.j1] at h, fun _ _ _ _ _ _ _ r h => by simp [gooseneckref04_Down.l1] at h⟩
 | k + 1 => by
  obtain ⟨ih0, ih1, ih2⟩ := gooseneckref04_Down.mono_l k
  refine ⟨?_, ?_, ?_⟩
  ·intro y0 y1 y2 y3 y4 y5 y6
   unfold gooseneckref04_Down.l0
   repeat' first
   | (with_reducible exact ih0 _ _ _ _ _ _ _)
   | (with_reducible exact ih1 _ _ _ _ _ _ _)
   | (with_reducible exact ih2 _ _ _ _ _ _ _)
   | (with_reducible exact LeO.refl _)
   | (with_reducible exact LeO.none _)
   | (with_reducible refine LeO.ite ?_ ?_)
   | (with_reducible refine LeO.bind ?_ (fun _ => ?_))
   | exact ih0 _ _ _ _ _ _ _
   | exact ih1 _ _ _ _ _ _ _
   | exact ih2 _ _ _ _ _ _ _
   | exact LeO.none _
   | refine LeO.ite ?_ ?_
   | refine LeO.bind ?_ (fun _ => ?_)
  ·intro y0 y1 y2 y3 y4 y5 y6
   unfold gooseneckref04_Down.j1
   repeat' first
   | (with_reducible exact ih0 _ _ _ _ _ _ _)
   | (with_reducible exact ih1 _ _ _ _ _ _ _)
   | (with_reducible exact ih2 _ _ _ _ _ _ _)
   | (with_reducible exact LeO.refl _)
   | (with_reducible exact LeO.none _)
   | (with_reducible refine LeO.ite ?_ ?_)
   | (with_reducible refine LeO.bind ?_ (fun _ => ?_))
   | exact ih0 _ _ _ _ _ _ _
   | exact ih1 _ _ _ _ _ _ _
   | exact ih2 _ _ _ _ _ _ _
   | exact LeO.none _
   | refine LeO.ite ?_ ?_
   | refine LeO.bind ?_ (fun _ => ?_)
  ·intro y0 y1 y2 y3 y4 y5 y6
   unfold gooseneckref04_Down.l1
   repeat' first
   | (with_reducible exact ih0 _ _ _ _ _ _ _)
   | (with_reducible exact ih1 _ _ _ _ _ _ _)
   | (with_reducible exact ih2 _ _ _ _ _ _ _)
   | (with_reducible exact LeO.refl _)
   | (with_reducible exact LeO.none _)
   | (with_reducible refine LeO.ite ?_ ?_)
   | (with_reducible refine LeO.bind ?_ (fun _ => ?_))
   | exact ih0 _ _ _ _ _ _ _
   | exact ih1 _ _ _ _ _ _ _
   | exact ih2 _ _ _ _ _ _ _
   | exact LeO.none _
   | refine LeO.ite ?_ ?_
   | refine LeO.bind ?_ (fun _ => ?_)
theorem gooseneckref04_Down.mono : ∀ a0 a1 a2 k, LeO (gooseneckref04_Down.f k a0 a1 a2) (gooseneckref04_Down.f (k + 1) a0 a1 a2) := by
 intro a0 a1 a2 k
 obtain ⟨ih0, ih1, ih2⟩ := gooseneckref04_Down.mono_l k
 unfold gooseneckref04_Down.f
 repeat' first
   | (with_reducible exact ih0 _ _ _ _ _ _ _)
   | (with_reducible exact ih1 _ _ _ _ _ _ _)
   | (with_reducible exact ih2 _ _ _ _ _ _ _)
   | (with_reducible exact LeO.refl _)
   | (with_reducible exact LeO.none _)
   | (with_reducible refine LeO.ite ?_ ?_)
   | (with_reducible refine LeO.bind ?_ (fun _ => ?_))
   | exact ih0 _ _ _ _ _ _ _
   | exact ih1 _ _ _ _ _ _ _
   | exact ih2 _ _ _ _ _ _ _
   | exact LeO.none _
   | refine LeO.ite ?_ ?_
   | refine LeO.bind ?_ (fun _ => ?_)
set_option maxHeartbeats 8000000 in
set_option maxRecDepth 100000 in
theorem gooseneckref04_Down.calls (k : Nat) (a0 : Int) (a1 : Int) (a2 : Int) (r : Int) (w : World) (h : gooseneckref04_Down.f k a0 a1 a2 = some r) :
  Calls Try.prog 83 #[.int .i64 a0, .int .i64 a1, .int .i64 a2] w fun e w' => e = .returned (.int .i64 r) ∧ Drawn0 w w' := by
 have H : ((gooseneckref02_Floor.f a1 a2).bind fun t101 => (gooseneckref04_Down.l0 k a0 a2 t101 (wrap64 (a1 - (wrap64 (t101 * a2)))) 0 0 30)) = some r := h
 clear h
 replace H := Option.bind_eq_some_iff.mp H
 obtain ⟨t101, A40, H⟩ := H
 replace H : (gooseneckref04_Down.l0 k a0 a2 t101 (wrap64 (a1 - (wrap64 (t101 * a2)))) 0 0 30) = some r := H
 have A4 := Aside0.mk A40
 clear A40
 have H' := Aside0.mk H
 clear H
 go_enter Try.func83, Try.ntmps83
 go_wp2_with (first | ((with_reducible refine gate_callee (f := 93) rfl ?_); refine goesL_ (some 14) rfl rfl Try.func93 (by kernel_rfl) rfl #[.int .i64 a1, .int .i64 a2] rfl (by (try simp only [List.map_toArray, List.map_cons, List.map_nil]); first | done | rfl | (simp only [List.length_drop, List.length_take]; rfl)) ?_; (with_reducible refine (gooseneckref02_Floor.calls a1 a2 t101 _ A4.out).mono ?_); rintro e w' ⟨rfl, ⟨nd, rfl⟩⟩; refine ⟨_, rfl, ?_⟩))
 go_loopg [9, 10, 11] k (fun kq v9 v10 v11 w' => ∃ (x9_1 : Int) (x10_1 : Int) (x11_1 : Int), v9 = .int .i64 x9_1 ∧ v10 = .int .i64 x10_1 ∧ v11 = .int .i64 x11_1 ∧ Aside0 (gooseneckref04_Down.l0 kq a0 a2 t101 (wrap64 (a1 - (wrap64 (t101 * a2)))) x9_1 x10_1 x11_1 = some r) ∧ Aside0 (kq ≤ k) ∧ Drawn0 w w')
 case atStart => exact ⟨(0), (0), (30), (by first | rfl | (simp; done) | (simp [*]; done)), (by first | rfl | (simp; done) | (simp [*]; done)), (by first | rfl | (simp; done) | (simp [*]; done)), H', ⟨Nat.le_refl _⟩, by repeat (first | exact Drawn0.refl _ | apply Drawn0.step)⟩
 case round =>
  clear H'
  try clear p2
  obtain ⟨x9_1, x10_1, x11_1, rfl, rfl, rfl, HA, HK1, ⟨m1, rfl⟩⟩ := hrel
  cases gk with
  | zero => exact absurd HA.out (by simp [gooseneckref04_Down.l0])
  | succ k1 =>
   have H := HA.out
   clear HA
   simp only [gooseneckref04_Down.l0] at H
   by_cases c5 : x11_1 ≥ 0
   ·rw [if_pos c5] at H
    have c5b0 : decide (0 ≤ x11_1) = true := decide_eq_true c5
    clear c5
    obtain ⟨ji6, hji6⟩ : ∃ j_ : Int, (IntKind.u64.wrap (x11_1)) = j_ := ⟨_, rfl⟩
    replace H : (if 0 ≤ (ji6) then (if (Int.tmod (shr .i64 a0 (ji6)) 2) = 1 then (gooseneckref04_Down.j1 k1 a0 a2 t101 (wrap64 (a1 - (wrap64 (t101 * a2)))) (wrap64 (2 * x9_1)) (wrap64 ((wrap64 (2 * x10_1)) + (wrap64 (a1 - (wrap64 (t101 * a2)))))) x11_1) else (gooseneckref04_Down.j1 k1 a0 a2 t101 (wrap64 (a1 - (wrap64 (t101 * a2)))) (wrap64 (2 * x9_1)) (wrap64 (2 * x10_1)) x11_1)) else (none)) = some r := by first | (rw [hji6] at H; exact H) | (simp only [hji6] at H ⊢; exact H)
    by_cases c7 : 0 ≤ (ji6)
    ·rw [if_pos c7] at H
     have c7b0 := eq_true c7
     have c7b1 : decide (0 ≤ (ji6)) = true := decide_eq_true c7
     clear c7
     obtain ⟨ji8, hji8⟩ : ∃ j_ : Int, (shr .i64 a0 (ji6)) = j_ := ⟨_, rfl⟩
     replace H : (if (Int.tmod (ji8) 2) = 1 then (gooseneckref04_Down.j1 k1 a0 a2 t101 (wrap64 (a1 - (wrap64 (t101 * a2)))) (wrap64 (2 * x9_1)) (wrap64 ((wrap64 (2 * x10_1)) + (wrap64 (a1 - (wrap64 (t101 * a2)))))) x11_1) else (gooseneckref04_Down.j1 k1 a0 a2 t101 (wrap64 (a1 - (wrap64 (t101 * a2)))) (wrap64 (2 * x9_1)) (wrap64 (2 * x10_1)) x11_1)) = some r := by first | (rw [hji8] at H; exact H) | (simp only [hji8] at H ⊢; exact H)
     have hji8_ : (a0 / 2 ^ min (ji6).toNat 64) = ji8 := hji8
     have hji8z : (ji6) ≤ 64 → (a0 / 2 ^ (ji6).toNat) = ji8 := shr_small hji8
     have HC9 := Aside0.mk H
     clear H
     go_upto_if 33 with (fail)
     go_cut [10] (fun v10 wc => ∃ (kq : Nat) (x10_8 : Int), v10 = .int .i64 x10_8 ∧ Aside0 (gooseneckref04_Down.j1 kq a0 a2 t101 (wrap64 (a1 - (wrap64 (t101 * a2)))) (wrap64 (2 * x9_1)) x10_8 x11_1 = some r) ∧ Aside0 (kq ≤ k1) ∧ Drawn0 w wc)
     case first =>
      have H := HC9.out
      clear HC9
      by_cases c10 : (Int.tmod (ji8) 2) = 1
      ·rw [if_pos c10] at H
       have c10b0 : ((Int.tmod (ji8) 2) == 1) = true := beq_iff_eq.mpr c10
       have c10b1 : ((Int.tmod (ji8) 2) != 1) = false := bne_eq_false_iff_eq.mpr c10
       clear c10
       (first | rw [c10b0] | (simp only [i64_w, i32_w]; rw [c10b0]) | skip)
       have H' := Aside0.mk H
       clear H
       go_wp2
       go_meet
       case rel => exact ⟨_, (wrap64 ((wrap64 (2 * x10_1)) + (wrap64 (a1 - (wrap64 (t101 * a2)))))), (by first | rfl | (simp; done) | (simp [*]; done)), H', ⟨by have := HK1.out; first | omega | exact Nat.le_refl _⟩, by repeat (first | exact Drawn0.refl _ | apply Drawn0.step)⟩
      ·rw [if_neg c10] at H
       have c10b0 : ((Int.tmod (ji8) 2) == 1) = false := beq_eq_false_iff_ne.mpr c10
       have c10b1 : ((Int.tmod (ji8) 2) != 1) = true := bne_iff_ne.mpr c10
       (first | rw [c10b0] | (simp only [i64_w, i32_w]; rw [c10b0]) | skip)
       have H' := Aside0.mk H
       clear H
       go_wp2
       go_meet
       case rel => exact ⟨_, (wrap64 (2 * x10_1)), (by first | rfl | (simp; done) | (simp [*]; done)), H', ⟨by have := HK1.out; first | omega | exact Nat.le_refl _⟩, by repeat (first | exact Drawn0.refl _ | apply Drawn0.step)⟩
     case rest =>
      clear HC9
      try clear c1
      try clear p2
      try clear c5
      try clear c5b0
      try clear p6
      try clear c7
      try clear c7b0
      try clear c7b1
      try clear c8
      try clear c9
      try clear c10
      try clear c10b0
      try clear c10b1
      try clear p2
      obtain ⟨kq, x10_8, rfl, HA, HJ8, ⟨mc8, rfl⟩⟩ := hcut
      cases kq with
      | zero => exact absurd HA.out (by simp [gooseneckref04_Down.j1])
      | succ kj8 =>
       have H := HA.out
       clear HA
       simp only [gooseneckref04_Down.j1] at H
       have H' := Aside0.mk H
       clear H
       go_wp2
       go_loopg [9, 10] kj8 (fun kq v9 v10 w' => ∃ (x9_3 : Int) (x10_3 : Int), v9 = .int .i64 x9_3 ∧ v10 = .int .i64 x10_3 ∧ Aside0 (gooseneckref04_Down.l1 kq a0 a2 t101 (wrap64 (a1 - (wrap64 (t101 * a2)))) x9_3 x10_3 x11_1 = some r) ∧ Aside0 (kq ≤ kj8) ∧ Drawn0 w w')
       case atStart => exact ⟨((wrap64 (2 * x9_1))), (x10_8), (by first | rfl | (simp; done) | (simp [*]; done)), (by first | rfl | (simp; done) | (simp [*]; done)), H', ⟨Nat.le_refl _⟩, by repeat (first | exact Drawn0.refl _ | apply Drawn0.step)⟩
       case round =>
        clear H'
        try clear c1
        try clear p2
        try clear c5
        try clear c5b0
        try clear p6
        try clear c7
        try clear c7b0
        try clear c7b1
        try clear c8
        try clear c9
        try clear c10
        try clear c10b0
        try clear c10b1
        try clear p2
        try clear p6
        obtain ⟨x9_3, x10_3, rfl, rfl, HA, HK3, ⟨m3, rfl⟩⟩ := hrel
        cases gk with
        | zero => exact absurd HA.out (by simp [gooseneckref04_Down.l1])
        | succ k3 =>
         have H := HA.out
         clear HA
         simp only [gooseneckref04_Down.l1] at H
         by_cases c11 : x10_3 ≥ a2
         ·rw [if_pos c11] at H
          have c11b0 : decide (a2 ≤ x10_3) = true := decide_eq_true c11
          clear c11
          have H' := Aside0.mk H
          clear H
          go_wp2
          go_roundg k3
          case measure => have := HK1.out; have := HJ8.out; have := HK3.out; omega
          case rel => exact ⟨(wrap64 (x9_3 + 1)), (wrap64 (x10_3 - a2)), (by first | rfl | (simp; done) | (simp [*]; done)), (by first | rfl | (simp; done) | (simp [*]; done)), H', ⟨by have := HK1.out; have := HJ8.out; have := HK3.out; omega⟩, by repeat (first | exact Drawn0.refl _ | apply Drawn0.step)⟩
         ·rw [if_neg c11] at H
          have c11b0 : decide (a2 ≤ x10_3) = false := decide_eq_false c11
          clear c11
          have H' := Aside0.mk H
          clear H
          go_wp2
          go_roundg k3
          case measure => have := HK1.out; have := HJ8.out; have := HK3.out; omega
          case rel => exact ⟨(x9_3), (x10_3), (wrap64 (x11_1 - 1)), (by first | rfl | (simp; done) | (simp [*]; done)), (by first | rfl | (simp; done) | (simp [*]; done)), (by first | rfl | (simp; done) | (simp [*]; done)), H', ⟨by have := HK1.out; have := HJ8.out; have := HK3.out; omega⟩, by repeat (first | exact Drawn0.refl _ | apply Drawn0.step)⟩
    ·rw [if_neg c7] at H
     exact absurd H (by simp)
   ·rw [if_neg c5] at H
    have c5b0 : decide (0 ≤ x11_1) = false := decide_eq_false c5
    clear c5
    obtain rfl := Option.some.inj H
    go_wp2
    go_ret
    exact ⟨by first | rfl | (simp; done) | (simp [*]; done), by repeat (first | exact Drawn0.refl _ | apply Drawn0.step)⟩
end Go.Proofs.Ytiklpefckadgdaa.P
noncomputable section
namespace Go.Proofs.Ytiklpefckadgdaa.P
open Go.RowKit Go.Proofs.YtiklpefckadgdaaW.PrintWords Go.Proofs.YtiklpefckadgdaaW.PrintLast Go.Proofs.YtiklpefckadgdaaW.PrintMore
attribute [local go_sem] max2_int min2_int max_two min_two max_three min_three max_four min_four   -- for this text's walks alone
set_option linter.unusedVariables false
set_option linter.unusedSimpArgs false
def gooseneckref04_Up.f (k : Nat) (a0 : Int) (a1 : Int) (a2 : Int) : Option (Int) := (gooseneckref04_Down.f k a0 (wrap64 (-a1)) a2).bind fun t101 => (some (wrap64 (-t101)))
theorem gooseneckref04_Up.mono : ∀ a0 a1 a2 k, LeO (gooseneckref04_Up.f k a0 a1 a2) (gooseneckref04_Up.f (k + 1) a0 a1 a2) := by
 intro a0 a1 a2 k
 unfold gooseneckref04_Up.f
 repeat' first
   | (with_reducible exact gooseneckref04_Down.mono _ _ _ _)
   | (with_reducible exact LeO.refl _)
   | (with_reducible exact LeO.none _)
   | (with_reducible refine LeO.ite ?_ ?_)
   | (with_reducible refine LeO.bind ?_ (fun _ => ?_))
   | exact gooseneckref04_Down.mono _ _ _ _
   | exact LeO.none _
   | refine LeO.ite ?_ ?_
   | refine LeO.bind ?_ (fun _ => ?_)
set_option maxHeartbeats 8000000 in
set_option maxRecDepth 100000 in
theorem gooseneckref04_Up.calls (k : Nat) (a0 : Int) (a1 : Int) (a2 : Int) (r : Int) (w : World) (h : gooseneckref04_Up.f k a0 a1 a2 = some r) :
  Calls Try.prog 63 #[.int .i64 a0, .int .i64 a1, .int .i64 a2] w fun e w' => e = .returned (.int .i64 r) ∧ Drawn0 w w' := by
 have H : ((gooseneckref04_Down.f k a0 (wrap64 (-a1)) a2).bind fun t101 => (some (wrap64 (-t101)))) = some r := h
 clear h
 replace H := Option.bind_eq_some_iff.mp H
 obtain ⟨t101, A40, H⟩ := H
 replace H : (some (wrap64 (-t101))) = some r := H
 have A4 := Aside0.mk A40
 clear A40
 obtain rfl := Option.some.inj H
 go_enter Try.func63, Try.ntmps63
 go_wp2_with (first | ((with_reducible refine gate_callee (f := 83) rfl ?_); refine goesL_ (some 11) rfl rfl Try.func83 (by kernel_rfl) rfl #[.int .i64 a0, .int .i64 (wrap64 (-a1)), .int .i64 a2] rfl (by (try simp only [List.map_toArray, List.map_cons, List.map_nil]); first | done | rfl | (simp only [List.length_drop, List.length_take]; rfl)) ?_; (with_reducible refine (gooseneckref04_Down.calls k a0 (wrap64 (-a1)) a2 t101 _ A4.out).mono ?_); rintro e w' ⟨rfl, ⟨nd, rfl⟩⟩; refine ⟨_, rfl, ?_⟩))
 go_ret
 exact ⟨by first | rfl | (simp; done) | (simp [*]; done), by repeat (first | exact Drawn0.refl _ | apply Drawn0.step)⟩
end Go.Proofs.Ytiklpefckadgdaa.P
noncomputable section
namespace Go.Proofs.Ytiklpefckadgdaa.P
open Go.RowKit Go.Proofs.YtiklpefckadgdaaW.PrintWords Go.Proofs.YtiklpefckadgdaaW.PrintLast Go.Proofs.YtiklpefckadgdaaW.PrintMore
attribute [local go_sem] max2_int min2_int max_two min_two max_three min_three max_four min_four   -- for this text's walks alone
set_option linter.unusedVariables false
set_option linter.unusedSimpArgs false
def gooseneckref06_BornMoment.f (k : Nat) (l0_0 : List Int) (l0_1 : List Int) (l0_2 : List Int) (a0_3 : Int) (a0_4 : Int) (a0_5 : Int) (a1 : Int) (a2 : Int) (a3 : Int) (a4 : Bool) : Option (Bool) := if 0 ≤ a1 then (if a1 < (l0_0.length : Int) then ((gooseneckref04_Up.f k (wrap64 (1000 + a0_3)) a3 (wrap64 (1000 * (rd l0_0 a1)))).bind fun t103 => (if a4 = true then ((gooseneckref06_up.f (wrap64 ((wrap64 ((wrap64 ((wrap64 (a0_4 - 1)) * a0_5)) * a2)) * (wrap64 ((rd l0_0 a1) - a2)))) 2000).bind fun t104 => (if a1 < (l0_1.length : Int) then (some (decide ((wrap64 (t103 + t104)) ≤ (wrap64 (1000 * (rd l0_1 a1)))))) else (none))) else (if a1 < (l0_1.length : Int) then (some (decide (t103 ≤ (wrap64 (1000 * (rd l0_1 a1)))))) else (none)))) else (none)) else (none)
theorem gooseneckref06_BornMoment.mono : ∀ a0 a1 a2 a3 a4 a5 a6 a7 a8 a9 k, LeO (gooseneckref06_BornMoment.f k a0 a1 a2 a3 a4 a5 a6 a7 a8 a9) (gooseneckref06_BornMoment.f (k + 1) a0 a1 a2 a3 a4 a5 a6 a7 a8 a9) := by
 intro a0 a1 a2 a3 a4 a5 a6 a7 a8 a9 k
 unfold gooseneckref06_BornMoment.f
 repeat' first
   | (with_reducible exact gooseneckref04_Up.mono _ _ _ _)
   | (with_reducible exact LeO.refl _)
   | (with_reducible exact LeO.none _)
   | (with_reducible refine LeO.ite ?_ ?_)
   | (with_reducible refine LeO.bind ?_ (fun _ => ?_))
   | exact gooseneckref04_Up.mono _ _ _ _
   | exact LeO.none _
   | refine LeO.ite ?_ ?_
   | refine LeO.bind ?_ (fun _ => ?_)
set_option maxHeartbeats 8000000 in
set_option maxRecDepth 100000 in
theorem gooseneckref06_BornMoment.calls (k : Nat) (A0_0 : Option Addr) (c0_0 : Nat) (l0_0 : List Int) (A0_1 : Option Addr) (c0_1 : Nat) (l0_1 : List Int) (A0_2 : Option Addr) (c0_2 : Nat) (l0_2 : List Int) (a0_3 : Int) (a0_4 : Int) (a0_5 : Int) (a1 : Int) (a2 : Int) (a3 : Int) (a4 : Bool) (r : Bool) (w : World) (hr0_0 : Kd.C (Kd.int .i64) w A0_0 l0_0.length l0_0) (hc0_0 : l0_0.length ≤ c0_0) (hr0_1 : Kd.C (Kd.int .i64) w A0_1 l0_1.length l0_1) (hc0_1 : l0_1.length ≤ c0_1) (hr0_2 : Kd.C (Kd.int .i64) w A0_2 l0_2.length l0_2) (hc0_2 : l0_2.length ≤ c0_2) (h : gooseneckref06_BornMoment.f k l0_0 l0_1 l0_2 a0_3 a0_4 a0_5 a1 a2 a3 a4 = some r) :
  Calls Try.prog 32 #[.agg #[.slice A0_0 l0_0.length c0_0, .slice A0_1 l0_1.length c0_1, .slice A0_2 l0_2.length c0_2, .int .i64 a0_3, .int .i64 a0_4, .int .i64 a0_5], .int .i64 a1, .int .i64 a2, .int .i64 a3, .bool a4] w fun e w' => e = .returned (.bool r) ∧ Below w.heap.size w w' := by
 have hu24 := Try.underlying24
 have HR0_0 := Aside0.mk hr0_0
 have HC0_0 := Aside0.mk hc0_0
 clear hr0_0 hc0_0
 have HR0_1 := Aside0.mk hr0_1
 have HC0_1 := Aside0.mk hc0_1
 clear hr0_1 hc0_1
 have HR0_2 := Aside0.mk hr0_2
 have HC0_2 := Aside0.mk hc0_2
 clear hr0_2 hc0_2
 have HB := Aside0.mk (Below.refl w.heap.size w)
 have H : (if 0 ≤ a1 then (if a1 < (l0_0.length : Int) then ((gooseneckref04_Up.f k (wrap64 (1000 + a0_3)) a3 (wrap64 (1000 * (rd l0_0 a1)))).bind fun t103 => (if a4 = true then ((gooseneckref06_up.f (wrap64 ((wrap64 ((wrap64 ((wrap64 (a0_4 - 1)) * a0_5)) * a2)) * (wrap64 ((rd l0_0 a1) - a2)))) 2000).bind fun t104 => (if a1 < (l0_1.length : Int) then (some (decide ((wrap64 (t103 + t104)) ≤ (wrap64 (1000 * (rd l0_1 a1)))))) else (none))) else (if a1 < (l0_1.length : Int) then (some (decide (t103 ≤ (wrap64 (1000 * (rd l0_1 a1)))))) else (none)))) else (none)) else (none)) = some r := h
 clear h
 by_cases c6 : 0 ≤ a1
 ·rw [if_pos c6] at H
  have c6b0 : decide (0 ≤ a1) = true := decide_eq_true c6
  clear c6
  by_cases c7 : a1 < (l0_0.length : Int)
  ·rw [if_pos c7] at H
   have c7b0 : decide (a1 < (l0_0.length : Int)) = true := decide_eq_true c7
   clear c7
   replace H := Option.bind_eq_some_iff.mp H
   obtain ⟨t103, A80, H⟩ := H
   replace H : (if a4 = true then ((gooseneckref06_up.f (wrap64 ((wrap64 ((wrap64 ((wrap64 (a0_4 - 1)) * a0_5)) * a2)) * (wrap64 ((rd l0_0 a1) - a2)))) 2000).bind fun t104 => (if a1 < (l0_1.length : Int) then (some (decide ((wrap64 (t103 + t104)) ≤ (wrap64 (1000 * (rd l0_1 a1)))))) else (none))) else (if a1 < (l0_1.length : Int) then (some (decide (t103 ≤ (wrap64 (1000 * (rd l0_1 a1)))))) else (none))) = some r := H
   have A8 := Aside0.mk A80
   clear A80
   by_cases c9 : a4 = true
   ·subst c9
    have H1 : ((gooseneckref06_up.f (wrap64 ((wrap64 ((wrap64 ((wrap64 (a0_4 - 1)) * a0_5)) * a2)) * (wrap64 ((rd l0_0 a1) - a2)))) 2000).bind fun t104 => (if a1 < (l0_1.length : Int) then (some (decide ((wrap64 (t103 + t104)) ≤ (wrap64 (1000 * (rd l0_1 a1)))))) else (none))) = some r := by rw [if_pos rfl] at H; exact H
    clear H
    have H := H1
    clear H1
    replace H := Option.bind_eq_some_iff.mp H
    obtain ⟨t104, A100, H⟩ := H
    replace H : (if a1 < (l0_1.length : Int) then (some (decide ((wrap64 (t103 + t104)) ≤ (wrap64 (1000 * (rd l0_1 a1)))))) else (none)) = some r := H
    have A10 := Aside0.mk A100
    clear A100
    by_cases c11 : a1 < (l0_1.length : Int)
    ·rw [if_pos c11] at H
     have c11b0 : decide (a1 < (l0_1.length : Int)) = true := decide_eq_true c11
     clear c11
     obtain rfl := Option.some.inj H
     go_enter Try.func32, Try.ntmps32
     go_wp2_with (first | ((with_reducible refine gate_dst (N := 5) rfl ?_); refine box_event ?hg (N := 5) ?hd (cs := #[.slice A0_0 l0_0.length c0_0, .slice A0_1 l0_1.length c0_1, .slice A0_2 l0_2.length c0_2, .int .i64 a0_3, .int .i64 a0_4, .int .i64 a0_5]) (t := 24) ?hr ?_; (case hd => rfl); (case hg => rfl); (case hr => first | (go_simp; done) | (go_simp; rfl)); intro gb101 hg w12 hbox hb; have n0_ := Aside0.mk (below_step (by repeat (first | (with_reducible first | exact HB.out | apply below_alloc | apply pw_below_drewN | apply below_drew1) | exact HB.out)) hb); have n1_ := Aside0.mk (hbox); have n2_ := Aside0.mk ((by rw [hg]; exact (below_size (by repeat (first | (with_reducible first | exact HB.out | apply below_alloc | apply pw_below_drewN | apply below_drew1) | exact HB.out))) : w.heap.size ≤ gb101)); have n3_ := Aside0.mk ((by rw [hg]; exact (below_size (by repeat (first | (with_reducible first | exact HB.out | apply below_alloc | apply pw_below_drewN | apply below_drew1) | exact HB.out))) : w.heap.size ≤ gb101)); clear HB; have HB := n0_; have BK101 := n1_; have GW101 := n2_; have GE101 := n3_; clear n0_ n1_ n2_ n3_; clear hb hbox hg; have hcz13_0 : w12.cell? ⟨gb101, 0, none⟩ = some (.slice A0_0 l0_0.length c0_0) := (blk_cell BK101.out 0).trans rfl; have hcz13_1 : w12.cell? ⟨gb101, 1, none⟩ = some (.slice A0_1 l0_1.length c0_1) := (blk_cell BK101.out 1).trans rfl; have hcz13_2 : w12.cell? ⟨gb101, 2, none⟩ = some (.slice A0_2 l0_2.length c0_2) := (blk_cell BK101.out 2).trans rfl; have hcz13_3 : w12.cell? ⟨gb101, 3, none⟩ = some (.int .i64 a0_3) := (blk_cell BK101.out 3).trans rfl; have hcz13_4 : w12.cell? ⟨gb101, 4, none⟩ = some (.int .i64 a0_4) := (blk_cell BK101.out 4).trans rfl; have hcz13_5 : w12.cell? ⟨gb101, 5, none⟩ = some (.int .i64 a0_5) := (blk_cell BK101.out 5).trans rfl; have hfz13_0 := blk_frozen BK101.out 0; have hfz13_1 := blk_frozen BK101.out 1; have hfz13_2 := blk_frozen BK101.out 2; have hfz13_3 := blk_frozen BK101.out 3; have hfz13_4 := blk_frozen BK101.out 4; have hfz13_5 := blk_frozen BK101.out 5; have p102 : 0 ≤ (a1 : Int) := of_decide_eq_true (by first | (with_reducible assumption) | assumption); have q102 : a1 < (l0_0.length : Int) := of_decide_eq_true (by first | (with_reducible assumption) | assumption); obtain ⟨ad102, e102, hx102_0⟩ := Kd.at_int HR0_0.out a1 p102 q102; cases e102; replace hx102_0 := (HB.out.cell (World.block_lt_of_cell? w _ hx102_0)).trans hx102_0; replace p102 := eq_true p102; replace q102 := eq_true q102) | ((with_reducible refine gate_callee (f := 63) rfl ?_); refine goesL_ (some 24) rfl rfl Try.func63 (by kernel_rfl) rfl #[.int .i64 (wrap64 (1000 + a0_3)), .int .i64 a3, .int .i64 (wrap64 (1000 * (rd l0_0 a1)))] rfl (by (try simp only [List.map_toArray, List.map_cons, List.map_nil]); first | done | rfl | (simp only [List.length_drop, List.length_take]; rfl)) ?_; (with_reducible refine (gooseneckref04_Up.calls k (wrap64 (1000 + a0_3)) a3 (wrap64 (1000 * (rd l0_0 a1))) t103 _ A8.out).mono ?_); rintro e w' ⟨rfl, ⟨nd, rfl⟩⟩; refine ⟨_, rfl, ?_⟩) | ((with_reducible refine gate_callee (f := 58) rfl ?_); refine goesL_ (some 39) rfl rfl Try.func58 (by kernel_rfl) rfl #[.int .i64 (wrap64 ((wrap64 ((wrap64 ((wrap64 (a0_4 - 1)) * a0_5)) * a2)) * (wrap64 ((rd l0_0 a1) - a2)))), .int .i64 2000] rfl (by (try simp only [List.map_toArray, List.map_cons, List.map_nil]); first | done | rfl | (simp only [List.length_drop, List.length_take]; rfl)) ?_; (with_reducible refine (gooseneckref06_up.calls (wrap64 ((wrap64 ((wrap64 ((wrap64 (a0_4 - 1)) * a0_5)) * a2)) * (wrap64 ((rd l0_0 a1) - a2)))) 2000 t104 _ A10.out).mono ?_); rintro e w' ⟨rfl, ⟨nd, rfl⟩⟩; refine ⟨_, rfl, ?_⟩; have p105 : 0 ≤ (a1 : Int) := of_decide_eq_true (by first | (with_reducible assumption) | assumption); have q105 : a1 < (l0_1.length : Int) := of_decide_eq_true (by first | (with_reducible assumption) | assumption); obtain ⟨ad105, e105, hx105_0⟩ := Kd.at_int HR0_1.out a1 p105 q105; cases e105; replace hx105_0 := (HB.out.cell (World.block_lt_of_cell? w _ hx105_0)).trans hx105_0; replace p105 := eq_true p105; replace q105 := eq_true q105))
     go_ret
     exact ⟨by first | rfl | (simp [errW_none, errW_some] <;> rfl) | (simp [*, errW_none, errW_some] <;> rfl), by repeat (first | (with_reducible first | exact HB.out | apply below_alloc | apply pw_below_drewN | apply below_drew1 | refine below_set ?_ GE101.out) | exact HB.out)⟩
    ·rw [if_neg c11] at H
     exact absurd H (by simp)
   ·replace c9 := Bool.eq_false_iff.mpr c9
    subst c9
    have H1 : (if a1 < (l0_1.length : Int) then (some (decide (t103 ≤ (wrap64 (1000 * (rd l0_1 a1)))))) else (none)) = some r := by rw [if_neg (show ¬ (false = true) by decide)] at H; exact H
    clear H
    have H := H1
    clear H1
    by_cases c14 : a1 < (l0_1.length : Int)
    ·rw [if_pos c14] at H
     have c14b0 : decide (a1 < (l0_1.length : Int)) = true := decide_eq_true c14
     clear c14
     obtain rfl := Option.some.inj H
     go_enter Try.func32, Try.ntmps32
     go_wp2_with (first | ((with_reducible refine gate_dst (N := 5) rfl ?_); refine box_event ?hg (N := 5) ?hd (cs := #[.slice A0_0 l0_0.length c0_0, .slice A0_1 l0_1.length c0_1, .slice A0_2 l0_2.length c0_2, .int .i64 a0_3, .int .i64 a0_4, .int .i64 a0_5]) (t := 24) ?hr ?_; (case hd => rfl); (case hg => rfl); (case hr => first | (go_simp; done) | (go_simp; rfl)); intro gb101 hg w15 hbox hb; have n0_ := Aside0.mk (below_step (by repeat (first | (with_reducible first | exact HB.out | apply below_alloc | apply pw_below_drewN | apply below_drew1) | exact HB.out)) hb); have n1_ := Aside0.mk (hbox); have n2_ := Aside0.mk ((by rw [hg]; exact (below_size (by repeat (first | (with_reducible first | exact HB.out | apply below_alloc | apply pw_below_drewN | apply below_drew1) | exact HB.out))) : w.heap.size ≤ gb101)); have n3_ := Aside0.mk ((by rw [hg]; exact (below_size (by repeat (first | (with_reducible first | exact HB.out | apply below_alloc | apply pw_below_drewN | apply below_drew1) | exact HB.out))) : w.heap.size ≤ gb101)); clear HB; have HB := n0_; have BK101 := n1_; have GW101 := n2_; have GE101 := n3_; clear n0_ n1_ n2_ n3_; clear hb hbox hg; have hcz16_0 : w15.cell? ⟨gb101, 0, none⟩ = some (.slice A0_0 l0_0.length c0_0) := (blk_cell BK101.out 0).trans rfl; have hcz16_1 : w15.cell? ⟨gb101, 1, none⟩ = some (.slice A0_1 l0_1.length c0_1) := (blk_cell BK101.out 1).trans rfl; have hcz16_2 : w15.cell? ⟨gb101, 2, none⟩ = some (.slice A0_2 l0_2.length c0_2) := (blk_cell BK101.out 2).trans rfl; have hcz16_3 : w15.cell? ⟨gb101, 3, none⟩ = some (.int .i64 a0_3) := (blk_cell BK101.out 3).trans rfl; have hcz16_4 : w15.cell? ⟨gb101, 4, none⟩ = some (.int .i64 a0_4) := (blk_cell BK101.out 4).trans rfl; have hcz16_5 : w15.cell? ⟨gb101, 5, none⟩ = some (.int .i64 a0_5) := (blk_cell BK101.out 5).trans rfl; have hfz16_0 := blk_frozen BK101.out 0; have hfz16_1 := blk_frozen BK101.out 1; have hfz16_2 := blk_frozen BK101.out 2; have hfz16_3 := blk_frozen BK101.out 3; have hfz16_4 := blk_frozen BK101.out 4; have hfz16_5 := blk_frozen BK101.out 5; have p102 : 0 ≤ (a1 : Int) := of_decide_eq_true (by first | (with_reducible assumption) | assumption); have q102 : a1 < (l0_0.length : Int) := of_decide_eq_true (by first | (with_reducible assumption) | assumption); obtain ⟨ad102, e102, hx102_0⟩ := Kd.at_int HR0_0.out a1 p102 q102; cases e102; replace hx102_0 := (HB.out.cell (World.block_lt_of_cell? w _ hx102_0)).trans hx102_0; replace p102 := eq_true p102; replace q102 := eq_true q102) | ((with_reducible refine gate_callee (f := 63) rfl ?_); refine goesL_ (some 24) rfl rfl Try.func63 (by kernel_rfl) rfl #[.int .i64 (wrap64 (1000 + a0_3)), .int .i64 a3, .int .i64 (wrap64 (1000 * (rd l0_0 a1)))] rfl (by (try simp only [List.map_toArray, List.map_cons, List.map_nil]); first | done | rfl | (simp only [List.length_drop, List.length_take]; rfl)) ?_; (with_reducible refine (gooseneckref04_Up.calls k (wrap64 (1000 + a0_3)) a3 (wrap64 (1000 * (rd l0_0 a1))) t103 _ A8.out).mono ?_); rintro e w' ⟨rfl, ⟨nd, rfl⟩⟩; refine ⟨_, rfl, ?_⟩; have p106 : 0 ≤ (a1 : Int) := of_decide_eq_true (by first | (with_reducible assumption) | assumption); have q106 : a1 < (l0_1.length : Int) := of_decide_eq_true (by first | (with_reducible assumption) | assumption); obtain ⟨ad106, e106, hx106_0⟩ := Kd.at_int HR0_1.out a1 p106 q106; cases e106; replace hx106_0 := (HB.out.cell (World.block_lt_of_cell? w _ hx106_0)).trans hx106_0; replace p106 := eq_true p106; replace q106 := eq_true q106))
     go_ret
     exact ⟨by first | rfl | (simp [errW_none, errW_some] <;> rfl) | (simp [*, errW_none, errW_some] <;> rfl), by repeat (first | (with_reducible first | exact HB.out | apply below_alloc | apply pw_below_drewN | apply below_drew1 | refine below_set ?_ GE101.out) | exact HB.out)⟩
    ·rw [if_neg c14] at H
     exact absurd H (by simp)
  ·rw [if_neg c7] at H
   exact absurd H (by simp)
 ·rw [if_neg c6] at H
  exact absurd H (by simp)
end Go.Proofs.Ytiklpefckadgdaa.P
noncomputable section
namespace Go.Proofs.Ytiklpefckadgdaa.P
open Go.RowKit Go.Proofs.YtiklpefckadgdaaW.PrintWords Go.Proofs.YtiklpefckadgdaaW.PrintLast Go.Proofs.YtiklpefckadgdaaW.PrintMore
attribute [local go_sem] max2_int min2_int max_two min_two max_three min_three max_four min_four   -- for this text's walks alone
set_option linter.unusedVariables false
set_option linter.unusedSimpArgs false
def gooseneckref06_BornEnd.f (k : Nat) (l0_0 : List Int) (l0_1 : List Int) (l0_2 : List Int) (a0_3 : Int) (a0_4 : Int) (a0_5 : Int) (a1 : Int) (a2 : Int) (a3 : Bool) : Option (Bool) := if 0 ≤ a1 then (if a1 < (l0_0.length : Int) then ((gooseneckref04_Up.f k (wrap64 (1000 + a0_3)) a2 (wrap64 (1000 * (rd l0_0 a1)))).bind fun t103 => (if a3 = true then ((gooseneckref06_up.f (wrap64 ((wrap64 ((wrap64 (a0_4 - 1)) * a0_5)) * (rd l0_0 a1))) 2000).bind fun t104 => (if a1 < (l0_2.length : Int) then (some (decide ((wrap64 (t103 + t104)) ≤ (rd l0_2 a1)))) else (none))) else (if a1 < (l0_2.length : Int) then (some (decide (t103 ≤ (rd l0_2 a1)))) else (none)))) else (none)) else (none)
theorem gooseneckref06_BornEnd.mono : ∀ a0 a1 a2 a3 a4 a5 a6 a7 a8 k, LeO (gooseneckref06_BornEnd.f k a0 a1 a2 a3 a4 a5 a6 a7 a8) (gooseneckref06_BornEnd.f (k + 1) a0 a1 a2 a3 a4 a5 a6 a7 a8) := by
 intro a0 a1 a2 a3 a4 a5 a6 a7 a8 k
 unfold gooseneckref06_BornEnd.f
 repeat' first
   | (with_reducible exact gooseneckref04_Up.mono _ _ _ _)
   | (with_reducible exact LeO.refl _)
   | (with_reducible exact LeO.none _)
   | (with_reducible refine LeO.ite ?_ ?_)
   | (with_reducible refine LeO.bind ?_ (fun _ => ?_))
   | exact gooseneckref04_Up.mono _ _ _ _
   | exact LeO.none _
   | refine LeO.ite ?_ ?_
   | refine LeO.bind ?_ (fun _ => ?_)
set_option maxHeartbeats 8000000 in
set_option maxRecDepth 100000 in
theorem gooseneckref06_BornEnd.calls (k : Nat) (A0_0 : Option Addr) (c0_0 : Nat) (l0_0 : List Int) (A0_1 : Option Addr) (c0_1 : Nat) (l0_1 : List Int) (A0_2 : Option Addr) (c0_2 : Nat) (l0_2 : List Int) (a0_3 : Int) (a0_4 : Int) (a0_5 : Int) (a1 : Int) (a2 : Int) (a3 : Bool) (r : Bool) (w : World) (hr0_0 : Kd.C (Kd.int .i64) w A0_0 l0_0.length l0_0) (hc0_0 : l0_0.length ≤ c0_0) (hr0_1 : Kd.C (Kd.int .i64) w A0_1 l0_1.length l0_1) (hc0_1 : l0_1.length ≤ c0_1) (hr0_2 : Kd.C (Kd.int .i64) w A0_2 l0_2.length l0_2) (hc0_2 : l0_2.length ≤ c0_2) (h : gooseneckref06_BornEnd.f k l0_0 l0_1 l0_2 a0_3 a0_4 a0_5 a1 a2 a3 = some r) :
  Calls Try.prog 33 #[.agg #[.slice A0_0 l0_0.length c0_0, .slice A0_1 l0_1.length c0_1, .slice A0_2 l0_2.length c0_2, .int .i64 a0_3, .int .i64 a0_4, .int .i64 a0_5], .int .i64 a1, .int .i64 a2, .bool a3] w fun e w' => e = .returned (.bool r) ∧ Below w.heap.size w w' := by
 have hu24 := Try.underlying24
 have HR0_0 := Aside0.mk hr0_0
 have HC0_0 := Aside0.mk hc0_0
 clear hr0_0 hc0_0
 have HR0_1 := Aside0.mk hr0_1
 have HC0_1 := Aside0.mk hc0_1
 clear hr0_1 hc0_1
 have HR0_2 := Aside0.mk hr0_2
 have HC0_2 := Aside0.mk hc0_2
 clear hr0_2 hc0_2
 have HB := Aside0.mk (Below.refl w.heap.size w)
 have H : (if 0 ≤ a1 then (if a1 < (l0_0.length : Int) then ((gooseneckref04_Up.f k (wrap64 (1000 + a0_3)) a2 (wrap64 (1000 * (rd l0_0 a1)))).bind fun t103 => (if a3 = true then ((gooseneckref06_up.f (wrap64 ((wrap64 ((wrap64 (a0_4 - 1)) * a0_5)) * (rd l0_0 a1))) 2000).bind fun t104 => (if a1 < (l0_2.length : Int) then (some (decide ((wrap64 (t103 + t104)) ≤ (rd l0_2 a1)))) else (none))) else (if a1 < (l0_2.length : Int) then (some (decide (t103 ≤ (rd l0_2 a1)))) else (none)))) else (none)) else (none)) = some r := h
 clear h
 by_cases c5 : 0 ≤ a1
 ·rw [if_pos c5] at H
  have c5b0 : decide (0 ≤ a1) = true := decide_eq_true c5
  clear c5
  by_cases c6 : a1 < (l0_0.length : Int)
  ·rw [if_pos c6] at H
   have c6b0 : decide (a1 < (l0_0.length : Int)) = true := decide_eq_true c6
   clear c6
   replace H := Option.bind_eq_some_iff.mp H
   obtain ⟨t103, A70, H⟩ := H
   replace H : (if a3 = true then ((gooseneckref06_up.f (wrap64 ((wrap64 ((wrap64 (a0_4 - 1)) * a0_5)) * (rd l0_0 a1))) 2000).bind fun t104 => (if a1 < (l0_2.length : Int) then (some (decide ((wrap64 (t103 + t104)) ≤ (rd l0_2 a1)))) else (none))) else (if a1 < (l0_2.length : Int) then (some (decide (t103 ≤ (rd l0_2 a1)))) else (none))) = some r := H
   have A7 := Aside0.mk A70
   clear A70
   by_cases c8 : a3 = true
   ·subst c8
    have H1 : ((gooseneckref06_up.f (wrap64 ((wrap64 ((wrap64 (a0_4 - 1)) * a0_5)) * (rd l0_0 a1))) 2000).bind fun t104 => (if a1 < (l0_2.length : Int) then (some (decide ((wrap64 (t103 + t104)) ≤ (rd l0_2 a1)))) else (none))) = some r := by rw [if_pos rfl] at H; exact H
    clear H
    have H := H1
    clear H1
    replace H := Option.bind_eq_some_iff.mp H
    obtain ⟨t104, A90, H⟩ := H
    replace H : (if a1 < (l0_2.length : Int) then (some (decide ((wrap64 (t103 + t104)) ≤ (rd l0_2 a1)))) else (none)) = some r := H
    have A9 := Aside0.mk A90
    clear A90
    by_cases c10 : a1 < (l0_2.length : Int)
    ·rw [if_pos c10] at H
     have c10b0 : decide (a1 < (l0_2.length : Int)) = true := decide_eq_true c10
     clear c10
     obtain rfl := Option.some.inj H
     go_enter Try.func33, Try.ntmps33
     go_wp2_with (first | ((with_reducible refine gate_dst (N := 4) rfl ?_); refine box_event ?hg (N := 4) ?hd (cs := #[.slice A0_0 l0_0.length c0_0, .slice A0_1 l0_1.length c0_1, .slice A0_2 l0_2.length c0_2, .int .i64 a0_3, .int .i64 a0_4, .int .i64 a0_5]) (t := 24) ?hr ?_; (case hd => rfl); (case hg => rfl); (case hr => first | (go_simp; done) | (go_simp; rfl)); intro gb101 hg w11 hbox hb; have n0_ := Aside0.mk (below_step (by repeat (first | (with_reducible first | exact HB.out | apply below_alloc | apply pw_below_drewN | apply below_drew1) | exact HB.out)) hb); have n1_ := Aside0.mk (hbox); have n2_ := Aside0.mk ((by rw [hg]; exact (below_size (by repeat (first | (with_reducible first | exact HB.out | apply below_alloc | apply pw_below_drewN | apply below_drew1) | exact HB.out))) : w.heap.size ≤ gb101)); have n3_ := Aside0.mk ((by rw [hg]; exact (below_size (by repeat (first | (with_reducible first | exact HB.out | apply below_alloc | apply pw_below_drewN | apply below_drew1) | exact HB.out))) : w.heap.size ≤ gb101)); clear HB; have HB := n0_; have BK101 := n1_; have GW101 := n2_; have GE101 := n3_; clear n0_ n1_ n2_ n3_; clear hb hbox hg; have hcz12_0 : w11.cell? ⟨gb101, 0, none⟩ = some (.slice A0_0 l0_0.length c0_0) := (blk_cell BK101.out 0).trans rfl; have hcz12_1 : w11.cell? ⟨gb101, 1, none⟩ = some (.slice A0_1 l0_1.length c0_1) := (blk_cell BK101.out 1).trans rfl; have hcz12_2 : w11.cell? ⟨gb101, 2, none⟩ = some (.slice A0_2 l0_2.length c0_2) := (blk_cell BK101.out 2).trans rfl; have hcz12_3 : w11.cell? ⟨gb101, 3, none⟩ = some (.int .i64 a0_3) := (blk_cell BK101.out 3).trans rfl; have hcz12_4 : w11.cell? ⟨gb101, 4, none⟩ = some (.int .i64 a0_4) := (blk_cell BK101.out 4).trans rfl; have hcz12_5 : w11.cell? ⟨gb101, 5, none⟩ = some (.int .i64 a0_5) := (blk_cell BK101.out 5).trans rfl; have hfz12_0 := blk_frozen BK101.out 0; have hfz12_1 := blk_frozen BK101.out 1; have hfz12_2 := blk_frozen BK101.out 2; have hfz12_3 := blk_frozen BK101.out 3; have hfz12_4 := blk_frozen BK101.out 4; have hfz12_5 := blk_frozen BK101.out 5; have p102 : 0 ≤ (a1 : Int) := of_decide_eq_true (by first | (with_reducible assumption) | assumption); have q102 : a1 < (l0_0.length : Int) := of_decide_eq_true (by first | (with_reducible assumption) | assumption); obtain ⟨ad102, e102, hx102_0⟩ := Kd.at_int HR0_0.out a1 p102 q102; cases e102; replace hx102_0 := (HB.out.cell (World.block_lt_of_cell? w _ hx102_0)).trans hx102_0; replace p102 := eq_true p102; replace q102 := eq_true q102) | ((with_reducible refine gate_callee (f := 63) rfl ?_); refine goesL_ (some 22) rfl rfl Try.func63 (by kernel_rfl) rfl #[.int .i64 (wrap64 (1000 + a0_3)), .int .i64 a2, .int .i64 (wrap64 (1000 * (rd l0_0 a1)))] rfl (by (try simp only [List.map_toArray, List.map_cons, List.map_nil]); first | done | rfl | (simp only [List.length_drop, List.length_take]; rfl)) ?_; (with_reducible refine (gooseneckref04_Up.calls k (wrap64 (1000 + a0_3)) a2 (wrap64 (1000 * (rd l0_0 a1))) t103 _ A7.out).mono ?_); rintro e w' ⟨rfl, ⟨nd, rfl⟩⟩; refine ⟨_, rfl, ?_⟩) | ((with_reducible refine gate_callee (f := 58) rfl ?_); refine goesL_ (some 33) rfl rfl Try.func58 (by kernel_rfl) rfl #[.int .i64 (wrap64 ((wrap64 ((wrap64 (a0_4 - 1)) * a0_5)) * (rd l0_0 a1))), .int .i64 2000] rfl (by (try simp only [List.map_toArray, List.map_cons, List.map_nil]); first | done | rfl | (simp only [List.length_drop, List.length_take]; rfl)) ?_; (with_reducible refine (gooseneckref06_up.calls (wrap64 ((wrap64 ((wrap64 (a0_4 - 1)) * a0_5)) * (rd l0_0 a1))) 2000 t104 _ A9.out).mono ?_); rintro e w' ⟨rfl, ⟨nd, rfl⟩⟩; refine ⟨_, rfl, ?_⟩; have p105 : 0 ≤ (a1 : Int) := of_decide_eq_true (by first | (with_reducible assumption) | assumption); have q105 : a1 < (l0_2.length : Int) := of_decide_eq_true (by first | (with_reducible assumption) | assumption); obtain ⟨ad105, e105, hx105_0⟩ := Kd.at_int HR0_2.out a1 p105 q105; cases e105; replace hx105_0 := (HB.out.cell (World.block_lt_of_cell? w _ hx105_0)).trans hx105_0; replace p105 := eq_true p105; replace q105 := eq_true q105))
     go_ret
     exact ⟨by first | rfl | (simp [errW_none, errW_some] <;> rfl) | (simp [*, errW_none, errW_some] <;> rfl), by repeat (first | (with_reducible first | exact HB.out | apply below_alloc | apply pw_below_drewN | apply below_drew1 | refine below_set ?_ GE101.out) | exact HB.out)⟩
    ·rw [if_neg c10] at H
     exact absurd H (by simp)
   ·replace c8 := Bool.eq_false_iff.mpr c8
    subst c8
    have H1 : (if a1 < (l0_2.length : Int) then (some (decide (t103 ≤ (rd l0_2 a1)))) else (none)) = some r := by rw [if_neg (show ¬ (false = true) by decide)] at H; exact H
    clear H
    have H := H1
    clear H1
    by_cases c13 : a1 < (l0_2.length : Int)
    ·rw [if_pos c13] at H
     have c13b0 : decide (a1 < (l0_2.length : Int)) = true := decide_eq_true c13
     clear c13
     obtain rfl := Option.some.inj H
     go_enter Try.func33, Try.ntmps33
     go_wp2_with (first | ((with_reducible refine gate_dst (N := 4) rfl ?_); refine box_event ?hg (N := 4) ?hd (cs := #[.slice A0_0 l0_0.length c0_0, .slice A0_1 l0_1.length c0_1, .slice A0_2 l0_2.length c0_2, .int .i64 a0_3, .int .i64 a0_4, .int .i64 a0_5]) (t := 24) ?hr ?_; (case hd => rfl); (case hg => rfl); (case hr => first | (go_simp; done) | (go_simp; rfl)); intro gb101 hg w14 hbox hb; have n0_ := Aside0.mk (below_step (by repeat (first | (with_reducible first | exact HB.out | apply below_alloc | apply pw_below_drewN | apply below_drew1) | exact HB.out)) hb); have n1_ := Aside0.mk (hbox); have n2_ := Aside0.mk ((by rw [hg]; exact (below_size (by repeat (first | (with_reducible first | exact HB.out | apply below_alloc | apply pw_below_drewN | apply below_drew1) | exact HB.out))) : w.heap.size ≤ gb101)); have n3_ := Aside0.mk ((by rw [hg]; exact (below_size (by repeat (first | (with_reducible first | exact HB.out | apply below_alloc | apply pw_below_drewN | apply below_drew1) | exact HB.out))) : w.heap.size ≤ gb101)); clear HB; have HB := n0_; have BK101 := n1_; have GW101 := n2_; have GE101 := n3_; clear n0_ n1_ n2_ n3_; clear hb hbox hg; have hcz15_0 : w14.cell? ⟨gb101, 0, none⟩ = some (.slice A0_0 l0_0.length c0_0) := (blk_cell BK101.out 0).trans rfl; have hcz15_1 : w14.cell? ⟨gb101, 1, none⟩ = some (.slice A0_1 l0_1.length c0_1) := (blk_cell BK101.out 1).trans rfl; have hcz15_2 : w14.cell? ⟨gb101, 2, none⟩ = some (.slice A0_2 l0_2.length c0_2) := (blk_cell BK101.out 2).trans rfl; have hcz15_3 : w14.cell? ⟨gb101, 3, none⟩ = some (.int .i64 a0_3) := (blk_cell BK101.out 3).trans rfl; have hcz15_4 : w14.cell? ⟨gb101, 4, none⟩ = some (.int .i64 a0_4) := (blk_cell BK101.out 4).trans rfl; have hcz15_5 : w14.cell? ⟨gb101, 5, none⟩ = some (.int .i64 a0_5) := (blk_cell BK101.out 5).trans rfl; have hfz15_0 := blk_frozen BK101.out 0; have hfz15_1 := blk_frozen BK101.out 1; have hfz15_2 := blk_frozen BK101.out 2; have hfz15_3 := blk_frozen BK101.out 3; have hfz15_4 := blk_frozen BK101.out 4; have hfz15_5 := blk_frozen BK101.out 5; have p102 : 0 ≤ (a1 : Int) := of_decide_eq_true (by first | (with_reducible assumption) | assumption); have q102 : a1 < (l0_0.length : Int) := of_decide_eq_true (by first | (with_reducible assumption) | assumption); obtain ⟨ad102, e102, hx102_0⟩ := Kd.at_int HR0_0.out a1 p102 q102; cases e102; replace hx102_0 := (HB.out.cell (World.block_lt_of_cell? w _ hx102_0)).trans hx102_0; replace p102 := eq_true p102; replace q102 := eq_true q102) | ((with_reducible refine gate_callee (f := 63) rfl ?_); refine goesL_ (some 22) rfl rfl Try.func63 (by kernel_rfl) rfl #[.int .i64 (wrap64 (1000 + a0_3)), .int .i64 a2, .int .i64 (wrap64 (1000 * (rd l0_0 a1)))] rfl (by (try simp only [List.map_toArray, List.map_cons, List.map_nil]); first | done | rfl | (simp only [List.length_drop, List.length_take]; rfl)) ?_; (with_reducible refine (gooseneckref04_Up.calls k (wrap64 (1000 + a0_3)) a2 (wrap64 (1000 * (rd l0_0 a1))) t103 _ A7.out).mono ?_); rintro e w' ⟨rfl, ⟨nd, rfl⟩⟩; refine ⟨_, rfl, ?_⟩; have p106 : 0 ≤ (a1 : Int) := of_decide_eq_true (by first | (with_reducible assumption) | assumption); have q106 : a1 < (l0_2.length : Int) := of_decide_eq_true (by first | (with_reducible assumption) | assumption); obtain ⟨ad106, e106, hx106_0⟩ := Kd.at_int HR0_2.out a1 p106 q106; cases e106; replace hx106_0 := (HB.out.cell (World.block_lt_of_cell? w _ hx106_0)).trans hx106_0; replace p106 := eq_true p106; replace q106 := eq_true q106))
     go_ret
     exact ⟨by first | rfl | (simp [errW_none, errW_some] <;> rfl) | (simp [*, errW_none, errW_some] <;> rfl), by repeat (first | (with_reducible first | exact HB.out | apply below_alloc | apply pw_below_drewN | apply below_drew1 | refine below_set ?_ GE101.out) | exact HB.out)⟩
    ·rw [if_neg c13] at H
     exact absurd H (by simp)
  ·rw [if_neg c6] at H
   exact absurd H (by simp)
 ·rw [if_neg c5] at H
  exact absurd H (by simp)
end Go.Proofs.Ytiklpefckadgdaa.P
