/- The law BridgeBorne answers true at every input and leaves its arguments as they were; no condition. Part 1 of 6. -/
import Derived.Test.YtiklpefckadgdaaProg
import Derived.Below
import Derived.Deep.Draws
import Derived.Deep.AppendLies
import Derived.Maps.AppendAt
import Derived.OwnWalk
import Derived.Laws.BytesArg
import Derived.Laws.MakeOwn
import Derived.Laws.OwnMore
import Derived.Deep.OwnRows
import Derived.Tactics
import Derived.Lib.ConvBytes
import Derived.Laws.Slices
import Derived.WalkKit
import Derived.KernelRfl
import Derived.RowKit3
import Derived.Deep.LoopGhost
import Derived.Deep.QuietTactic
import Derived.BigQuiet
import Derived.WideLaws
import Derived.Deep.DeepCutAuto
import Derived.Deep.CutBlock
import Derived.Deep.RegionHeld3
import Derived.Laws.Rows
import Derived.Lib.AppendStr
import Derived.ArgAppend
import Derived.Laws.IdiomCopy
import Derived.OrdersHeld
import Derived.Laws.BitsLemmas
import Derived.RowKit
import Derived.Test.YtiklpefckadgdaaCBridgeBornewWords
import Derived.Test.YtiklpefckadgdaaCBridgeBornewLast
import Derived.Test.YtiklpefckadgdaaCBridgeBornewTab
import Derived.Test.YtiklpefckadgdaaCBridgeBornewFour
import Derived.Test.YtiklpefckadgdaaCBridgeBornewQPut
import Derived.Test.YtiklpefckadgdaaCBridgeBornewApart
import Derived.Test.YtiklpefckadgdaaCBridgeBornewArr
import Derived.Test.YtiklpefckadgdaaCBridgeBornewZeros
import Derived.Test.YtiklpefckadgdaaCBridgeBornewFoot
import Derived.Test.YtiklpefckadgdaaCBridgeBornewKept
import Derived.Test.YtiklpefckadgdaaCBridgeBornewShare
import Derived.Test.YtiklpefckadgdaaCBridgeBornewN
import Derived.Test.YtiklpefckadgdaaCBridgeBornewFootNe
import Derived.Test.YtiklpefckadgdaaCBridgeBornewAt
import Derived.Test.YtiklpefckadgdaaCBridgeBornewEqStruct
import Derived.Test.YtiklpefckadgdaaCBridgeBornewRepsOne
import Derived.Test.YtiklpefckadgdaaCBridgeBornewInv
import Derived.Test.YtiklpefckadgdaaCBridgeBornewInvWords
import Derived.Test.YtiklpefckadgdaaCBridgeBornewGuard
import Derived.Test.YtiklpefckadgdaaCBridgeBornewNEv
import Derived.Test.YtiklpefckadgdaaCBridgeBornewMore
import Derived.RangeFuncNested
import Derived.RangeFuncBound
import Derived.RangeFuncCalls
import Derived.RangeFuncLeaves
import Derived.Shelf.Abstract
import Derived.OwnWalkIn
import Derived.TacticsInMore
import Derived.LoopNIn
import Derived.LoopIn
import Derived.OrdersIn
noncomputable section
namespace Go.Proofs.Ytiklpefckadgdaa.P
open Go.RowKit Go.Proofs.YtiklpefckadgdaaW.PrintWords Go.Proofs.YtiklpefckadgdaaW.PrintLast Go.Proofs.YtiklpefckadgdaaW.PrintMore
attribute [local go_sem] max2_int min2_int max_two min_two max_three min_three max_four min_four   -- for this text's walks alone
set_option linter.unusedVariables false
set_option linter.unusedSimpArgs false
def errW : Option Int → Value
 | none => .nilIface
 | some c => .iface 0 (.int .i64 c)
theorem errW_none : errW none = .nilIface := rfl
theorem errW_some (c : Int) : errW (some c) = .iface 0 (.int .i64 c) := rfl
theorem info2 : (Try.prog.info? 2).map (fun i => (i.zero, i.size, i.bytes)) = some (some (.int .i64 0), 1, 8) := by kernel_rfl
theorem info35 : (Try.prog.info? 35).map (fun i => (i.zero, i.size, i.bytes)) = some (some (.agg #[(.int .i64 0), (.int .i64 0)]), 2, 16) := by kernel_rfl
structure S35 where
 f0 : Int
 f1 : Int
def z35 : S35 := ⟨(0 : Int), (0 : Int)⟩
def k35 : Kd S35 := Kd.iso (Kd.pair (Kd.int .i64) (Kd.int .i64)) (fun x : S35 => (x.f0, x.f1))
theorem k35_open {w : World} {x : S35} {cs : List Value} (h : k35.K w x cs) : cs = [.int .i64 x.f0, .int .i64 x.f1] := by
 obtain ⟨_, _, rfl, rfl, rfl⟩ := h
 exact rfl
theorem k35_openM {w : World} {base : Nat} {ok : Nat → Prop} {x : S35} {cs : List Value} (h : k35.M w base ok x cs) : cs = [.int .i64 x.f0, .int .i64 x.f1] := by
 obtain ⟨_, _, rfl, rfl, rfl⟩ := h
 exact rfl
theorem k35_mk (w : World) (x : S35)  : k35.K w x [.int .i64 x.f0, .int .i64 x.f1] := ⟨[.int .i64 x.f0], [.int .i64 x.f1], rfl, rfl, rfl⟩
theorem k35_mkM (w : World) (base : Nat) (ok : Nat → Prop) (x : S35)  : k35.M w base ok x [.int .i64 x.f0, .int .i64 x.f1] := ⟨[.int .i64 x.f0], [.int .i64 x.f1], rfl, rfl, rfl⟩
def rd_T35 (xs : List S35) (i : Int) : S35 := xs.getD i.toNat z35
theorem at_T35 {w : World} {A : Option Addr} {n : Nat} {xs : List S35} (h : Kd.C k35 w A n xs) (i : Int) (h0 : 0 ≤ i) (h1 : i < n) : ∃ ad , A = some ad ∧ w.cell? (ad.add (i.toNat * 2)) = some (.int .i64 (rd_T35 xs i).f0) ∧ w.cell? ⟨(ad.add (i.toNat * 2)).block, (ad.add (i.toNat * 2)).off + 1, none⟩ = some (.int .i64 (rd_T35 xs i).f1) := by
 obtain ⟨ad, c, e, _, hK, hc0⟩ := Kd.C_get h z35 i h0 h1
 have hc : ∀ j u, c[j]? = some u → w.cell? (ad.add (i.toNat * 2 + j)) = some u := hc0
 obtain rfl := k35_open hK
 exact ⟨ad, e, hc 0 _ rfl, by rw [← add_field _ _ 1 (by omega)]; exact hc 1 _ rfl⟩
structure S24 where
 f0 : (List Int)
 f1 : (List Int)
 f2 : (List Int)
 f3 : Int
 f4 : Int
 f5 : Int
def k24 : Kd S24 := Kd.iso (Kd.pair (Kd.slice 2 (Kd.int .i64)) (Kd.pair (Kd.slice 2 (Kd.int .i64)) (Kd.pair (Kd.slice 2 (Kd.int .i64)) (Kd.pair (Kd.int .i64) (Kd.pair (Kd.int .i64) (Kd.int .i64)))))) (fun x : S24 => (x.f0, x.f1, x.f2, x.f3, x.f4, x.f5))
theorem k24_open {w : World} {x : S24} {cs : List Value} (h : k24.K w x cs) : ∃ A0 c0 A1 c1 A2 c2, cs = [.slice A0 x.f0.length c0, .slice A1 x.f1.length c1, .slice A2 x.f2.length c2, .int .i64 x.f3, .int .i64 x.f4, .int .i64 x.f5] ∧ x.f0.length ≤ c0 ∧ (Kd.int .i64).C w A0 x.f0.length x.f0 ∧ x.f1.length ≤ c1 ∧ (Kd.int .i64).C w A1 x.f1.length x.f1 ∧ x.f2.length ≤ c2 ∧ (Kd.int .i64).C w A2 x.f2.length x.f2 := by
 obtain ⟨_, _, rfl, ⟨A0, c0, rfl, l0, g0⟩, ⟨_, _, rfl, ⟨A1, c1, rfl, l1, g1⟩, ⟨_, _, rfl, ⟨A2, c2, rfl, l2, g2⟩, ⟨_, _, rfl, rfl, ⟨_, _, rfl, rfl, rfl⟩⟩⟩⟩⟩ := h
 exact ⟨A0, c0, A1, c1, A2, c2, rfl, l0, g0, l1, g1, l2, g2⟩
structure S29 where
 f0 : Int
 f1 : Int
 f2 : Int
 f3 : Int
def z29 : S29 := ⟨(0 : Int), (0 : Int), (0 : Int), (0 : Int)⟩
end Go.Proofs.Ytiklpefckadgdaa.P
namespace Go.Proofs.Ytiklpefckadgdaa.O
open Go.RowKit Go.Shelf
def Firm {β : Type} (B : Nat) (I : β → World → Prop) : Prop := ∀ s W W', I s W → Below B W W' → I s W'
theorem Firm.mono {β : Type} {B B' : Nat} {I : β → World → Prop} (h : Firm B I) (hB : B ≤ B') : Firm B' I := fun s W W' hs hb => h s W W' hs (hb.mono hB)
structure Turns (T : Nat → Prop) (W W' : World) : Prop where
 os : W'.os = W.os
 tape : W'.tape = W.tape
 output : W'.output = W.output
 size : W.heap.size ≤ W'.heap.size
 same : ∀ k, ¬ T k → k < W.heap.size → W'.heap[k]? = W.heap[k]?
theorem Turns.refl (T : Nat → Prop) (W : World) : Turns T W W := ⟨rfl, rfl, rfl, Nat.le_refl _, fun _ _ _ => rfl⟩
theorem Turns.trans {T : Nat → Prop} {a b c : World} (h : Turns T a b) (k : Turns T b c) : Turns T a c :=
 ⟨k.os.trans h.os, k.tape.trans h.tape, k.output.trans h.output, Nat.le_trans h.size k.size, fun i hi hs => (k.same i hi (Nat.lt_of_lt_of_le hs h.size)).trans (h.same i hi hs)⟩
theorem Turns.of_below {T : Nat → Prop} {W W' : World} (h : Below W.heap.size W W') : Turns T W W' := ⟨h.os, h.tape, h.output, h.size, fun k _ hk => h.block k hk⟩
theorem Turns.weaken {T T' : Nat → Prop} {W W' : World} (h : Turns T W W') (hT : ∀ k, T k → T' k) : Turns T' W W' := ⟨h.os, h.tape, h.output, h.size, fun k hk hs => h.same k (fun g => hk (hT k g)) hs⟩
theorem Turns.putObj {T : Nat → Prop} {l : Nat} (W : World) (o : Obj) (hT : T l) : Turns T W (W.putObj l o) :=
 ⟨rfl, rfl, rfl, by simp, fun k hk _ => World.putObj_heap_other (fun e => hk (e ▸ hT))⟩
theorem Turns.setCell {T : Nat → Prop} (W : World) (p : Addr) (v : Value) (hT : T p.block) : Turns T W (W.setCell p v) :=
 ⟨rfl, rfl, rfl, by simp [World.setCell], fun k hk _ => Below.heap_setCell _ _ _ k (fun e => hk (e ▸ hT))⟩
theorem Turns.keeps {T : Nat → Prop} {k : Nat} {W W' : World} {o : Obj} (h : Turns T W W') (hk : ¬ T k) (ho : W.heap[k]? = some o) : W'.heap[k]? = some o :=
 (h.same k hk (Array.getElem?_eq_some_iff.1 ho).1).trans ho
theorem Turns.drew {T : Nat → Prop} {a w : World} (h : Turns T a w) : Turns T a w.drew := ⟨h.os, h.tape, h.output, h.size, h.same⟩
theorem Turns.below {T : Nat → Prop} {B : Nat} {W W' : World} (h : Turns T W W') (hT : ∀ k, T k → B ≤ k) (hB : B ≤ W.heap.size) : Below B W W' :=
 ⟨h.os, h.tape, h.output, h.size, fun k hk => h.same k (fun g => by have := hT k g; omega) (by omega)⟩
theorem below_putObj {B l : Nat} (W : World) (o : Obj) (h : B ≤ l) : Below B W (W.putObj l o) :=
 ⟨rfl, rfl, rfl, by simp, fun k hk => World.putObj_heap_other (by omega)⟩
theorem keep_below {B k : Nat} {W W' : World} {o : Obj} (h : Below B W W') (hk : k < B) (ho : W.heap[k]? = some o) : W'.heap[k]? = some o := (h.block k hk).trans ho
def Tor (T : Nat → Prop) (A B : Nat) : Nat → Prop := fun k => T k ∨ (A ≤ k ∧ k < B)
def SeqO {α : Type} (P : Program) (g : Nat) (lb : Array Value) (encs : α → Array Value) (L : List α) (T : Nat → Prop) (w : World) : Prop :=
 ∀ (l : Nat) (J Jx : List α → World → Prop) (W : World), Below w.heap.size w W → Firm W.heap.size J → Firm W.heap.size Jx →
  (∀ pre x W1, J pre W1 → (pre ++ [x]) <+: L → YieldAt Fence.wide 0 P l (encs x) W1 fun e W' =>
   (e = .returned (.bool true) ∧ J (pre ++ [x]) W' ∧ Turns (Tor T w.heap.size W.heap.size) W1 W') ∨ (e = .returned (.bool false) ∧ Jx (pre ++ [x]) W' ∧ Turns (Tor T w.heap.size W.heap.size) W1 W')) →
  J [] W →
  CallsIn Fence.wide 0 P g (#[.func (.yield l) #[] #[]] ++ lb) W fun e W' => (∃ v, e = .returned v) ∧ (J L W' ∨ ∃ pre, pre <+: L ∧ Jx pre W')
def postO {α : Type} (T : Nat → Prop) (I Ix : List α → World → Prop) (xs : List α) (W : World) : Exit → Act → World → Prop
 | .normal, _, W' => Turns T W W' ∧ I xs W'
 | .ret, _, W' => Turns T W W' ∧ Ix xs W'
 | _, _, _ => False
variable {P : Program}
theorem wpIn_rangeFunc_O {α : Type} {g : Operand} {ps : Array Tmp} {assign body : Code} {Q : Exit → Act → World → Prop} {a : Act} {w : World}
  {gf : Nat} {lb : Array Value} (hg : a.eval g = .func (.func gf) #[] lb) (eg : ∀ args w, (callFunc gf args).run P w = .ok (.enter gf args) w)
  {encs : α → Array Value} {L : List α} {T : Nat → Prop} {w0 : World} (hseq : SeqO P gf lb encs L T w0) (hT : ∀ k, T k → k < w.heap.size) (hb0 : Below w0.heap.size w0 w) (hps : ∀ x, (encs x).size = ps.size)
  (I Ix : List α → World → Prop) (hI : Firm w.heap.size I) (hIx : Firm w.heap.size Ix) (h0 : I [] w)
  (Ax : α → Act → World → Prop) (hAx : ∀ x a' W r o, Ax x a' W → W.heap[w.heap.size + 1]? = some (.loop r) → Ax x a' (W.putObj (w.heap.size + 1) o))
  (hassign : ∀ (l : Nat) (pre : List α) (x : α) (W : World) (K : Act → World → Prop), I pre W → (pre ++ [x]) <+: L → w.heap.size ≤ W.heap.size → (∀ a' W', Below W.heap.size W W' → Ax x a' W' → K a' W') →
   assign.wpIn (Fence.wide.inRound l) 0 P (Exit.then K (fun _ _ _ => False)) { tmps := (ps.zip (encs x)).foldl (fun t (p, v) => t.setIfInBounds p v) a.tmps, defers := [] } W)
  (hbody : ∀ (l : Nat) (pre : List α) (x : α) (a' : Act) (W : World), I pre W → (pre ++ [x]) <+: L → w.heap.size ≤ W.heap.size → Ax x a' W → body.wpIn (Fence.wide.inRound l) 0 P (postO (Tor T w0.heap.size w.heap.size) I Ix (pre ++ [x]) W) a' W)
  (hdone : ∀ (D : Nat) (W : World), w.heap.size ≤ D → I L W → W.heap[D]? = some (.deferred (some [])) → Q .normal { a with defers := { target := .collected D, args := #[] } :: a.defers } W)
  (hstop : ∀ (D : Nat) (pre : List α) (W : World), w.heap.size ≤ D → pre <+: L → Ix pre W → W.heap[D]? = some (.deferred (some [])) → Code.ret.wpIn Fence.wide 0 P Q { a with defers := { target := .collected D, args := #[] } :: a.defers } W) :
  (Code.rangeFunc g ps assign body).wpIn Fence.wide 0 P Q a w := by
 refine wpIn_rangeFunc fun fn hfn => ?_
 let rec_ : LoopState → Option Code → Loop := fun st pe => { state := st, pending := pe, fn, tmps := a.tmps, params := ps, assign, body, defers := w.heap.size }
 obtain ⟨W1, hW1⟩ : ∃ W1, (w.alloc (.deferred (some []))).alloc (.loop (rec_ .ready none)) = W1 := ⟨_, rfl⟩
 have hs1 : W1.heap.size = w.heap.size + 2 := by rw [← hW1]; simp
 have hL1 : W1.heap[w.heap.size + 1]? = some (.loop (rec_ .ready none)) := by
  rw [← hW1]; have := World.alloc_heap_new (w.alloc (.deferred (some []))) (.loop (rec_ .ready none)); rwa [World.size_alloc] at this
 have hK1 : W1.heap[w.heap.size]? = some (.deferred (some [])) := by
  rw [← hW1]; exact (Below.heap_alloc _ _ _ (by simp)).trans (World.alloc_heap_new w _)
 have hb1 : Below w.heap.size w W1 := by rw [← hW1]; exact ((Below.refl _ w).alloc (Nat.le_refl _) _).alloc (by simp) _
 have hsz := hb0.size
 refine ⟨w.heap.size + 1, [{ target := .collected w.heap.size, args := #[] }], W1, { target := .fn (.func gf) lb, args := #[.func (.yield (w.heap.size + 1)) #[] #[]] }, W1, gf,
  #[.func (.yield (w.heap.size + 1)) #[] #[]] ++ lb, W1, ?_, ?_, fun _ _ => trivial, ?_, (fun h => absurd h (by simp [Fence.wide])), ?_⟩
 ·rw [← hW1]; exact run_enterLoop_outer _ _ _ _ _
 ·simp only [resolve, hg]
  simp [go_sem]
 ·simp [invoke, go_sem, eg]
 ·refine (hseq (w.heap.size + 1)
   (fun pre W => (I pre W ∧ w.heap.size + 2 ≤ W.heap.size) ∧ W.heap[w.heap.size + 1]? = some (.loop (rec_ .ready none)) ∧ W.heap[w.heap.size]? = some (.deferred (some [])))
   (fun pre W => Ix pre W ∧ W.heap[w.heap.size + 1]? = some (.loop (rec_ .done (some .ret))) ∧ W.heap[w.heap.size]? = some (.deferred (some [])))
   W1 (hb0.trans (hb1.mono hsz)) ?_ ?_ ?_ ⟨⟨hI _ _ _ h0 hb1, by omega⟩, hL1, hK1⟩).mono ?_
  ·rintro s A B ⟨⟨hi, hz⟩, hl, hk⟩ hb
   have := hb.size
   exact ⟨⟨hI _ _ _ hi (hb.mono (by omega)), by omega⟩, keep_below hb (by omega) hl, keep_below hb (by omega) hk⟩
  ·rintro s A B ⟨hi, hl, hk⟩ hb
   exact ⟨hIx _ _ _ hi (hb.mono (by omega)), keep_below hb (by omega) hl, keep_below hb (by omega) hk⟩
  ·rintro pre x W ⟨⟨hi, hz⟩, hl, hk⟩ hpre
   have hy := run_yield (P := P) (args := encs x) hl (hps x)
   refine ⟨fn, _, assign, body, hy, roundIn_of_wpIn hfn (hassign _ pre x W _ hi hpre (by omega) ?_)⟩
   intro a' Wa hba hax
   have hza := hba.size
   have hla := keep_below hba (by omega) hl
   have hka := keep_below hba (by omega) hk
   refine ⟨_, run_beginRound hla rfl, ?_⟩
   have hl2 : (Wa.putObj (w.heap.size + 1) (.loop { rec_ .ready none with state := .busy })).heap[w.heap.size + 1]? = some (.loop { rec_ .ready none with state := .busy }) := World.putObj_heap_same (by omega)
   have hk2 : (Wa.putObj (w.heap.size + 1) (.loop { rec_ .ready none with state := .busy })).heap[w.heap.size]? = some (.deferred (some [])) := (World.putObj_heap_other (by omega)).trans hka
   have m1 : Turns (Tor T w0.heap.size W1.heap.size) W (Wa.putObj (w.heap.size + 1) (.loop { rec_ .ready none with state := .busy })) :=
    (Turns.of_below hba).trans (Turns.putObj _ _ (.inr ⟨by omega, by omega⟩))
   have n1 : ¬ Tor T w0.heap.size w.heap.size (w.heap.size + 1) := fun h => by
    rcases h with h | h
    ·have := hT _ h; omega
    ·omega
   have n2 : ¬ Tor T w0.heap.size w.heap.size w.heap.size := fun h => by
    rcases h with h | h
    ·have := hT _ h; omega
    ·omega
   have n3 : ∀ k, Tor T w0.heap.size w.heap.size k → Tor T w0.heap.size W1.heap.size k := fun k h => h.imp id (fun g => ⟨g.1, by omega⟩)
   have i2 := hI _ _ _ (hI _ _ _ hi (hba.mono (by omega))) (below_putObj Wa (.loop { rec_ .ready none with state := .busy }) (show w.heap.size ≤ w.heap.size + 1 by omega))
   refine wpIn_mono (hbody _ pre x a' _ i2 hpre (by simp; omega) (hAx _ _ _ _ _ hax hla)) ?_
   rintro e a3 W3 hp
   cases e with
   | normal =>
    obtain ⟨hm, hi3⟩ := hp
    have hl3 := hm.keeps n1 hl2
    have hk3 := hm.keeps n2 hk2
    have hz3 := (Array.getElem?_eq_some_iff.1 hl3).1
    refine ⟨_, _, run_endRound none hl3, .inl ⟨rfl, ⟨⟨hI _ _ _ hi3 (below_putObj _ _ (by omega)), by simp; omega⟩, World.putObj_heap_same hz3, (World.putObj_heap_other (by omega)).trans hk3⟩, ?_⟩⟩
    exact (m1.trans (hm.weaken n3)).trans (Turns.putObj _ _ (.inr ⟨by omega, by omega⟩))
   | ret =>
    obtain ⟨hm, hi3⟩ := hp
    have hl3 := hm.keeps n1 hl2
    have hk3 := hm.keeps n2 hk2
    have hz3 := (Array.getElem?_eq_some_iff.1 hl3).1
    refine ⟨_, _, run_endRound (some .ret) hl3, .inr ⟨rfl, ⟨hIx _ _ _ hi3 (below_putObj _ _ (by omega)), World.putObj_heap_same hz3, (World.putObj_heap_other (by omega)).trans hk3⟩, ?_⟩⟩
    exact (m1.trans (hm.weaken n3)).trans (Turns.putObj _ _ (.inr ⟨by omega, by omega⟩))
   | exit id => exact hp.elim
   | goto t => exact hp.elim
   | panic ch => exact hp.elim
   | outgrown => exact hp.elim
  ·rintro e W2 ⟨⟨v, rfl⟩, (⟨⟨hi, _⟩, hl, hk⟩ | ⟨pre, hpre, hi, hl, hk⟩)⟩
   ·exact ⟨none, _, run_endLoop (P := P) hl (by simp [rec_]), hdone _ _ (Nat.le_refl _) (hI _ _ _ hi (below_putObj _ _ (by omega))) ((World.putObj_heap_other (by omega)).trans hk)⟩
   ·exact ⟨some .ret, _, run_endLoop (P := P) hl (by simp [rec_]), hstop _ pre _ (Nat.le_refl _) hpre (hIx _ _ _ hi (below_putObj _ _ (by omega))) ((World.putObj_heap_other (by omega)).trans hk)⟩
end Go.Proofs.Ytiklpefckadgdaa.O
namespace Go.Proofs.Ytiklpefckadgdaa.P
open Go.RowKit Go.Shelf Go.Proofs.Ytiklpefckadgdaa.O Go.Proofs.YtiklpefckadgdaaW.PrintWords Go.Proofs.YtiklpefckadgdaaW.PrintLast Go.Proofs.YtiklpefckadgdaaW.PrintMore
attribute [local go_sem] Oper.semAt_some
def breakRow (ks : List Int) (x : S35) : List Int := ks.map fun k => wrap64 (k + x.f0)
def breaksL (l : List S35) (ks : List Int) : List Int := l.flatMap (breakRow ks)
theorem breaksL_split (l : List S35) (ks : List Int) (i : Nat) (h : i < l.length) : breaksL l ks = breaksL (l.take i) ks ++ breakRow ks l[i] ++ breaksL (l.drop (i + 1)) ks := by
 have e : l = l.take i ++ l[i] :: l.drop (i + 1) := by rw [← List.drop_eq_getElem_cons h, List.take_append_drop]
 have : breaksL l ks = breaksL (l.take i ++ l[i] :: l.drop (i + 1)) ks := congrArg (fun z => breaksL z ks) e
 rw [this]
 simp only [breaksL, List.flatMap_append, List.flatMap_cons, List.append_assoc]
theorem breaksL_succ (l : List S35) (ks : List Int) (i : Nat) (h : i < l.length) : breaksL (l.take (i + 1)) ks = breaksL (l.take i) ks ++ breakRow ks l[i] := by
 rw [List.take_add_one, List.getElem?_eq_getElem h]
 simp only [breaksL, Option.toList, List.flatMap_append, List.flatMap_cons, List.flatMap_nil, List.append_nil]
theorem breakRow_split (ks : List Int) (x : S35) (j : Nat) (hj : j < ks.length) : breakRow ks x = breakRow (ks.take j) x ++ wrap64 (ks[j] + x.f0) :: breakRow (ks.drop (j + 1)) x := by
 have e : ks = ks.take j ++ ks[j] :: ks.drop (j + 1) := by rw [← List.drop_eq_getElem_cons hj, List.take_append_drop]
 have : breakRow ks x = breakRow (ks.take j ++ ks[j] :: ks.drop (j + 1)) x := congrArg (fun z => breakRow z x) e
 rw [this]
 simp only [breakRow, List.map_append, List.map_cons]
theorem breaks_prefix (l : List S35) (ks : List Int) (i j : Nat) (h : i < l.length) (hj : j < ks.length) :
  (breaksL (l.take i) ks ++ breakRow (ks.take j) l[i]) ++ [wrap64 (ks[j] + l[i].f0)] <+: breaksL l ks := by
 rw [breaksL_split l ks i h, breakRow_split ks l[i] j hj]
 exact ⟨breakRow (ks.drop (j + 1)) l[i] ++ breaksL (l.drop (i + 1)) ks, by simp only [List.append_assoc, List.cons_append, List.nil_append]⟩
theorem breakRow_succ (ks : List Int) (x : S35) (j : Nat) (hj : j < ks.length) : breakRow (ks.take (j + 1)) x = breakRow (ks.take j) x ++ [wrap64 (ks[j] + x.f0)] := by
 rw [List.take_add_one, List.getElem?_eq_getElem hj]
 simp only [breakRow, Option.toList, List.map_append, List.map_cons, List.map_nil]
theorem rd_get (l : List Int) (i : Nat) (h : i < l.length) : rd l (i : Int) = l[i] := by
 simp only [rd, Int.toNat_natCast, List.getD_eq_getElem?_getD, List.getElem?_eq_getElem h, Option.getD_some]
theorem rd35_get (l : List S35) (i : Nat) (h : i < l.length) : rd_T35 l (i : Int) = l[i] := by
 simp only [rd_T35, Int.toNat_natCast, List.getD_eq_getElem?_getD, List.getElem?_eq_getElem h, Option.getD_some]
set_option maxRecDepth 100000 in
set_option maxHeartbeats 4000000 in
theorem breaks_in (l Bt Bf c1 c2 : Nat) (A1 A2 : Option Addr) (vf : Value) (l1 : List S35) (ks : List Int) (J Jx : List Int → World → Prop) (T : Nat → Prop) (w0 W : World)
  (hT : ∀ k, T k → w0.heap.size ≤ k ∧ k < W.heap.size) (hTf : ¬ T Bf)
  (hW : Below w0.heap.size w0 W) (hJ : Firm W.heap.size J)
  (hY : ∀ pre x W1, J pre W1 → (pre ++ [x]) <+: breaksL l1 ks → YieldAt Fence.wide 0 Try.prog l #[.int .i64 x] W1 fun e W' =>
   (e = .returned (.bool true) ∧ J (pre ++ [x]) W' ∧ Turns T W1 W') ∨ (e = .returned (.bool false) ∧ Jx (pre ++ [x]) W' ∧ Turns T W1 W'))
  (ht : W.heap[Bt]? = some (.cells #[.slice A1 l1.length c1] 25 (0, 0))) (hf : W.heap[Bf]? = some (.cells #[vf, .slice A2 ks.length c2] 69 (0, 0)))
  (hr1 : Kd.C k35 w0 A1 l1.length l1) (hr2 : Kd.C (Kd.int .i64) w0 A2 ks.length ks) (h0 : J [] W) :
  CallsIn Fence.wide 0 Try.prog 90 #[.func (.yield l) #[] #[], .pointer (some ⟨Bt, 0, none⟩), .pointer (some ⟨Bf, 0, none⟩)] W fun e W' => (∃ v, e = .returned v) ∧
   (J (breaksL l1 ks) W' ∨ ∃ pre, pre <+: breaksL l1 ks ∧ Jx pre W') := by
 have ct : W.cell? ⟨Bt, 0, none⟩ = some (.slice A1 l1.length c1) := (blk_cell ht 0).trans rfl
 have hu35 := Try.underlying35
 have hu69 := Try.underlying69
 have hm1 := Kd.C_max hr1
 have hm2 := Kd.C_max hr2
 refine callsIn_of_wp Try.func90 rfl trivial ?_ rfl
 simp only [Try.ntmps90, List.size_toArray, List.length_cons, List.length_nil, Nat.reduceAdd, Nat.reduceSub, Array.replicate_succ, Array.replicate_zero, List.push_toArray, List.append_toArray, List.nil_append, List.cons_append]
 gi_wp2
 gi_loopw [10] (fun i wr => ∃ k : Nat, k ≤ l1.length ∧ i = .int .i64 k ∧ J (breaksL (l1.take k) ks) wr ∧ Below w0.heap.size w0 wr ∧ W.heap.size ≤ wr.heap.size ∧ wr.heap[Bf]? = some (.cells #[vf, .slice A2 ks.length c2] 69 (0, 0)))
  (fun i _ => l1.length - (intOf i).toNat)
 case atStart => exact ⟨0, Nat.zero_le _, rfl, by simpa [breaksL] using h0, hW, Nat.le_refl _, hf⟩
 case round =>
  rename World => wq
  obtain ⟨k, hk, rfl, hJs, hnx, hsz, hfq⟩ := hrel
  by_cases hlt : k < l1.length
  ·obtain ⟨ad, rfl, hx0, hx1⟩ := at_T35 hr1 (k : Int) (by omega) (by omega)
   rw [rd35_get l1 k hlt, Int.toNat_natCast] at hx0 hx1
   replace hx0 := (hnx.cell (World.block_lt_of_cell? w0 _ hx0)).trans hx0
   replace hx1 := (hnx.cell (World.block_lt_of_cell? w0 _ hx1)).trans hx1
   obtain ⟨w2, hw2⟩ : ∃ w2, wq.alloc (.cells #[.int .i64 l1[k].f0, .int .i64 l1[k].f1] 35 (0, 0)) = w2 := ⟨_, rfl⟩
   have hb2 : Below W.heap.size wq w2 := by rw [← hw2]; exact (Below.refl _ _).alloc hsz _
   have hbw2 : Below w0.heap.size w0 w2 := hnx.trans (hb2.mono hW.size)
   have hJ2 := hJ _ _ _ hJs hb2
   have hx2 : w2.heap[wq.heap.size]? = some (.cells #[.int .i64 l1[k].f0, .int .i64 l1[k].f1] 35 (0, 0)) := by rw [← hw2]; exact World.alloc_heap_new _ _
   have hz2 : wq.heap.size < w2.heap.size := by rw [← hw2]; simp
   have hf2 : w2.heap[Bf]? = some (.cells #[vf, .slice A2 ks.length c2] 69 (0, 0)) := by rw [← hw2]; exact blk_alloc hfq _
   have cf : w2.cell? ⟨Bf, 1, none⟩ = some (.slice A2 ks.length c2) := (blk_cell hf2 1).trans rfl
   gi_wp2
   gi_loopw [17] (fun i w3 => ∃ j : Nat, j ≤ ks.length ∧ i = .int .i64 j ∧ J (breaksL (l1.take k) ks ++ breakRow (ks.take j) l1[k]) w3 ∧ Below w0.heap.size w0 w3 ∧ wq.heap.size < w3.heap.size ∧ w3.heap[wq.heap.size]? = some (.cells #[.int .i64 l1[k].f0, .int .i64 l1[k].f1] 35 (0, 0)) ∧ w3.heap[Bf]? = some (.cells #[vf, .slice A2 ks.length c2] 69 (0, 0)))
    (fun i _ => ks.length - (intOf i).toNat)
   case atStart => exact ⟨0, Nat.zero_le _, rfl, by simpa [breakRow] using hJ2, hbw2, hz2, hx2, hf2⟩
   case round =>
    obtain ⟨j, hj, rfl, hJ3, hnx3, hsz3, hx3, hf3⟩ := hrel
    by_cases hlt3 : j < ks.length
    ·obtain ⟨ad2, rfl, hk0⟩ := Kd.at_int hr2 (j : Int) (by omega) (by omega)
     rw [rd_get ks j hlt3, Int.toNat_natCast] at hk0
     replace hk0 := (hnx3.cell (World.block_lt_of_cell? w0 _ hk0)).trans hk0
     have cx : wr.cell? ⟨wq.heap.size, 0, none⟩ = some (.int .i64 l1[k].f0) := (blk_cell hx3 0).trans rfl
     obtain ⟨fn, tmps, assign, body, hy, hR⟩ := hY _ _ wr hJ3 (breaks_prefix l1 ks k j hlt hlt3)
     gi_wp2
     refine ⟨rfl, hR.mono ?_⟩
     rintro e W3 (⟨rfl, hJ4, hm4⟩ | ⟨rfl, hJ4, hm4⟩)
     ·gi_wp2
      have hsz4 := hm4.size
      refine ⟨⟨j + 1, by omega, by simp, ?_, hnx3.trans (hm4.below (fun k h => (hT k h).1) hnx3.size), by omega, hm4.keeps (fun h => by have := (hT _ h).2; omega) hx3, hm4.keeps hTf hf3⟩, by simp [intOf]; omega⟩
      rw [breakRow_succ ks l1[k] j hlt3, ← List.append_assoc]
      exact hJ4
     ·gi_wp2
      refine bodyPost_ret (results_none rfl _ _ _) rfl ?_
      exact ⟨⟨_, rfl⟩, .inr ⟨_, breaks_prefix l1 ks k j hlt hlt3, hJ4⟩⟩
    ·obtain rfl : j = ks.length := by omega
     gi_wp2
     refine ⟨⟨k + 1, by omega, by simp, ?_, hnx3, by omega, hf3⟩, by simp [intOf]; omega⟩
     rw [breaksL_succ l1 ks k hlt]
     simpa using hJ3
  ·obtain rfl : k = l1.length := by omega
   gi_wp2
   go_end0
   exact ⟨⟨_, rfl⟩, .inl (by simpa using hJs)⟩
end Go.Proofs.Ytiklpefckadgdaa.P
noncomputable section
namespace Go.Proofs.Ytiklpefckadgdaa.P
open Go.RowKit Go.Proofs.YtiklpefckadgdaaW.PrintWords Go.Proofs.YtiklpefckadgdaaW.PrintLast Go.Proofs.YtiklpefckadgdaaW.PrintMore
attribute [local go_sem] max2_int min2_int max_two min_two max_three min_three max_four min_four   -- for this text's walks alone
set_option linter.unusedVariables false
set_option linter.unusedSimpArgs false
def bridge_sum.l0 : Nat → Int → List Int → Int → Int → Option (Int)
 | 0, _, _, _, _ => none
 | k + 1, x2, x5, x6, x7 => if x7 < x6 then (if 0 ≤ x7 then (if x7 < (x5.length : Int) then (bridge_sum.l0 k (wrap64 (x2 + (rd x5 x7))) x5 x6 (wrap64 (x7 + 1))) else (none)) else (none)) else (some x2)
def bridge_sum.f (k : Nat) (l0 : List Int) : Option (Int) := bridge_sum.l0 k 0 l0 (l0.length : Int) 0
theorem bridge_sum.mono_l : ∀ k, (∀ y0 y1 y2 y3, LeO (bridge_sum.l0 k y0 y1 y2 y3) (bridge_sum.l0 (k + 1) y0 y1 y2 y3))
 | 0 => fun _ _ _ _ r h => by simp [bridge_sum.l0] at h
 | k + 1 => by
  have ih0 := bridge_sum.mono_l k
  ·intro y0 y1 y2 y3
   unfold bridge_sum.l0
   repeat' first
   | (with_reducible exact ih0 _ _ _ _)
   | (with_reducible exact LeO.refl _)
   | (with_reducible exact LeO.none _)
   | (with_reducible refine LeO.ite ?_ ?_)
   | (with_reducible refine LeO.bind ?_ (fun _ => ?_))
   | exact ih0 _ _ _ _
   | exact LeO.none _
   | refine LeO.ite ?_ ?_
   | refine LeO.bind ?_ (fun _ => ?_)
theorem bridge_sum.mono : ∀ a0 k, LeO (bridge_sum.f k a0) (bridge_sum.f (k + 1) a0) := by
 intro a0 k
 have ih0 := bridge_sum.mono_l k
 unfold bridge_sum.f
 repeat' first
   | (with_reducible exact ih0 _ _ _ _)
   | (with_reducible exact LeO.refl _)
   | (with_reducible exact LeO.none _)
   | (with_reducible refine LeO.ite ?_ ?_)
   | (with_reducible refine LeO.bind ?_ (fun _ => ?_))
   | exact ih0 _ _ _ _
   | exact LeO.none _
   | refine LeO.ite ?_ ?_
   | refine LeO.bind ?_ (fun _ => ?_)
set_option maxHeartbeats 8000000 in
set_option maxRecDepth 100000 in
theorem bridge_sum.calls (k : Nat) (A0 : Option Addr) (c0 : Nat) (l0 : List Int) (r : Int) (w : World) (hr0 : Kd.C (Kd.int .i64) w A0 l0.length l0) (hc0 : l0.length ≤ c0) (h : bridge_sum.f k l0 = some r) :
  Calls Try.prog 79 #[.slice A0 l0.length c0] w fun e w' => e = .returned (.int .i64 r) ∧ Drawn0 w w' := by
 have HR0 := Aside0.mk hr0
 have HC0 := Aside0.mk hc0
 clear hr0 hc0
 have H : (bridge_sum.l0 k 0 l0 (l0.length : Int) 0) = some r := h
 clear h
 have H' := Aside0.mk H
 clear H
 go_enter Try.func79, Try.ntmps79
 go_wp2
 go_loopg [2, 7] k (fun kq v2 v7 w' => ∃ (x2_1 : Int) (x7_1 : Int), v2 = .int .i64 x2_1 ∧ v7 = .int .i64 x7_1 ∧ Aside0 (bridge_sum.l0 kq x2_1 l0 (l0.length : Int) x7_1 = some r) ∧ Aside0 (kq ≤ k) ∧ Drawn0 w w')
 case atStart => exact ⟨(0), (0), (by first | rfl | (simp; done) | (simp [*]; done)), (by first | rfl | (simp; done) | (simp [*]; done)), H', ⟨Nat.le_refl _⟩, by repeat (first | exact Drawn0.refl _ | apply Drawn0.step)⟩
 case round =>
  clear H'
  obtain ⟨x2_1, x7_1, rfl, rfl, HA, HK1, ⟨m1, rfl⟩⟩ := hrel
  cases gk with
  | zero => exact absurd HA.out (by simp [bridge_sum.l0])
  | succ k1 =>
   have H := HA.out
   clear HA
   simp only [bridge_sum.l0] at H
   by_cases c2 : x7_1 < (l0.length : Int)
   ·rw [if_pos c2] at H
    have c2b0 : decide (x7_1 < (l0.length : Int)) = true := decide_eq_true c2
    clear c2
    by_cases c3 : 0 ≤ x7_1
    ·rw [if_pos c3] at H
     have c3b0 : decide (0 ≤ x7_1) = true := decide_eq_true c3
     clear c3
     by_cases c4 : x7_1 < (l0.length : Int)
     ·rw [if_pos c4] at H
      have c4b0 : decide (x7_1 < (l0.length : Int)) = true := decide_eq_true c4
      clear c4
      have H' := Aside0.mk H
      clear H
      have p101 : 0 ≤ (x7_1 : Int) := of_decide_eq_true (by first | (with_reducible assumption) | assumption)
      have q101 : x7_1 < (l0.length : Int) := of_decide_eq_true (by first | (with_reducible assumption) | assumption)
      obtain ⟨ad101, e101, hx101_0⟩ := Kd.at_int HR0.out x7_1 p101 q101
      cases e101
      replace p101 := eq_true p101
      replace q101 := eq_true q101
      go_wp2
      go_roundg k1
      case measure => have := HK1.out; omega
      case rel => exact ⟨(wrap64 (x2_1 + (rd l0 x7_1))), (wrap64 (x7_1 + 1)), (by first | rfl | (simp; done) | (simp [*]; done)), (by first | rfl | (simp; done) | (simp [*]; done)), H', ⟨by have := HK1.out; omega⟩, by repeat (first | exact Drawn0.refl _ | apply Drawn0.step)⟩
     ·rw [if_neg c4] at H
      exact absurd H (by simp)
    ·rw [if_neg c3] at H
     exact absurd H (by simp)
   ·rw [if_neg c2] at H
    have c2b0 : decide (x7_1 < (l0.length : Int)) = false := decide_eq_false c2
    clear c2
    obtain rfl := Option.some.inj H
    go_wp2
    go_ret
    exact ⟨by first | rfl | (simp; done) | (simp [*]; done), by repeat (first | exact Drawn0.refl _ | apply Drawn0.step)⟩
end Go.Proofs.Ytiklpefckadgdaa.P
namespace Go.Proofs.Ytiklpefckadgdaa.P
open Go.RowKit Go.Shelf Go.Proofs.Ytiklpefckadgdaa.O Go.Proofs.YtiklpefckadgdaaW.PrintWords Go.Proofs.YtiklpefckadgdaaW.PrintLast Go.Proofs.YtiklpefckadgdaaW.PrintMore
attribute [local go_sem] Oper.semAt_some
def axleW (line : Int → Int) (s : Int) (x : S35) : Int := if 0 < x.f1 then wrap64 (x.f1 * line (wrap64 (s - x.f0))) else 0
def sumW (l : List Int) : Int := l.foldl (fun n x => wrap64 (n + x)) 0
def effW (line : Int → Int) (l : List S35) (s : Int) : Int := sumW (l.map (axleW line s))
def LineFn (g : Nat) (lb : Array Value) (line : Int → Int) (w0 : World) : Prop :=
 (∀ args w, (callFunc g args).run Try.prog w = .ok (.enter g args) w) ∧ ∀ a W, Below w0.heap.size w0 W → Calls Try.prog g (#[.int .i64 a] ++ lb) W fun e W' => e = .returned (.int .i64 (line a)) ∧ Below W.heap.size W W'
def rowOf (l : List Int) : Array Value := (l.map (Value.int .i64)).toArray
theorem rowOf_set (l : List Int) (i : Nat) (v : Int) : (rowOf l).setIfInBounds i (.int .i64 v) = rowOf (l.set i v) := by
 simp [rowOf, List.map_set]
theorem rowOf_get (l : List Int) (i : Nat) : (rowOf l)[i]? = (l[i]?).map (Value.int .i64) := by simp [rowOf]
theorem made_zeros (n : Nat) : madeCells #[.int .i64 0] (n * 1) = rowOf (List.replicate n 0) := by
 apply Array.ext
 ·simp [madeCells, rowOf]
 ·intro i h1 h2
  simp [madeCells, rowOf, Nat.mod_one]
theorem run_make2 (n : Nat) (hn : n ≤ 1000000) (W : World) : Sem.run Try.prog (Instr.makeSlice 22 (.int .i64 (n : Int)) (.int .i64 (n : Int))) W = .ok (.slice (some ⟨W.heap.size, 0, none⟩) n n) (W.alloc (.cells (rowOf (List.replicate n 0)) 2 (0, 0))) := by
 obtain ⟨i0, hi, hz, hs, hb⟩ := info_parts info2
 have := run_makeSlice (P := Try.prog) W 22 2 i0 _ Try.underlying22 hi hz .i64 .i64 (n : Int) (n : Int) (by omega) (by omega) (by rw [hs]; omega) (by rw [hb]; omega) (by omega)
 rw [hs, Int.toNat_natCast, show (Value.int .i64 0).cells = #[Value.int .i64 0] from rfl, made_zeros] at this
 exact this
theorem row_C {W : World} {g : Nat} {l : List Int} (h : W.heap[g]? = some (.cells (rowOf l) 2 (0, 0))) (hl : l.length ≤ 9223372036854775807) : Kd.C (Kd.int .i64) W (some ⟨g, 0, none⟩) l.length l := by
 refine Kd.C_of_reads (d := (0 : Int)) (h1 := fun _ => rfl) ⟨rfl, hl, fun _ => ⟨_, rfl, fun j hj => ?_⟩⟩
 have := blk_cell h j
 rw [rowOf_get, List.getElem?_eq_getElem hj] at this
 have e : (⟨g, 0, none⟩ : Addr).add j = ⟨g, j, none⟩ := by cases j <;> simp [Addr.add]
 rw [e, this, List.getD_eq_getElem?_getD, List.getElem?_eq_getElem hj]
 rfl
def effRow (line : Int → Int) (s : Int) (l : List S35) (k : Nat) : List Int := (l.take k).map (axleW line s) ++ List.replicate (l.length - k) 0
theorem effRow_zero (line : Int → Int) (s : Int) (l : List S35) : effRow line s l 0 = List.replicate l.length 0 := by simp [effRow]
theorem effRow_all (line : Int → Int) (s : Int) (l : List S35) : effRow line s l l.length = l.map (axleW line s) := by simp [effRow]
theorem effRow_set (line : Int → Int) (s : Int) (l : List S35) (k : Nat) (h : k < l.length) : (effRow line s l k).set k (axleW line s l[k]) = effRow line s l (k + 1) := by
 have e : l.length - k = (l.length - (k + 1)) + 1 := by omega
 have hk : ((l.take k).map (axleW line s)).length = k := by simp; omega
 simp only [effRow]
 rw [List.set_append_right _ _ (by omega), hk, Nat.sub_self, e, List.replicate_succ, List.set_cons_zero, List.take_add_one, List.getElem?_eq_getElem h]
 simp only [Option.toList, List.map_append, List.map_cons, List.map_nil, List.append_assoc, List.cons_append, List.nil_append]
theorem effRow_same (line : Int → Int) (s : Int) (l : List S35) (k : Nat) (h : k < l.length) (h0 : ¬ 0 < l[k].f1) : effRow line s l (k + 1) = effRow line s l k := by
 have e : l.length - k = (l.length - (k + 1)) + 1 := by omega
 simp only [effRow]
 rw [e, List.replicate_succ, List.take_add_one, List.getElem?_eq_getElem h]
 simp only [Option.toList, List.map_append, List.map_cons, List.map_nil, List.append_assoc, List.cons_append, List.nil_append, axleW, if_neg h0]
theorem sum_loop (l : List Int) (hl : l.length ≤ 1000000) (d : Nat) : ∀ (i : Nat) (n : Int), l.length - i = d → i ≤ l.length → Ev (fun k => bridge_sum.l0 k n l (l.length : Int) (i : Int)) ((l.drop i).foldl (fun n x => wrap64 (n + x)) n) := by
 induction d with
 | zero =>
  intro i n hd hi
  have he : i = l.length := by omega
  subst he
  refine Ev.step (f := fun _ => some n) (fun k => ?_) (by simpa using Ev.now n)
  simp only [bridge_sum.l0]
  rw [if_neg (by omega)]
 | succ d ih =>
  intro i n hd hi
  have hlt : i < l.length := by omega
  rw [List.drop_eq_getElem_cons hlt, List.foldl_cons]
  refine Ev.step (fun k => ?_) (ih (i + 1) _ (by omega) (by omega))
  simp only [bridge_sum.l0]
  rw [if_pos (by omega), if_pos (by omega), if_pos (by omega), rd_get l i hlt]
  congr 1
  unfold wrap64; omega
theorem sum_ev (l : List Int) (hl : l.length ≤ 1000000) : ∃ k, bridge_sum.f k l = some (sumW l) := by
 have := Ev.rounds (sum_loop l hl l.length 0 0 (by omega) (by omega))
 simpa [bridge_sum.f, sumW] using this
set_option maxRecDepth 100000 in
set_option maxHeartbeats 4000000 in
theorem effect_calls (g : Nat) (lb : Array Value) (line : Int → Int) (vk : Value) (A1 : Option Addr) (c1 : Nat) (l1 : List S35) (s : Int) (w : World)
  (hl : LineFn g lb line w) (hr1 : Kd.C k35 w A1 l1.length l1) (hlen : l1.length ≤ 1000) :
  Calls Try.prog 49 #[.agg #[.func (.func g) #[] lb, vk], .slice A1 l1.length c1, .int .i64 s] w fun e W' => e = .returned (.int .i64 (effW line l1 s)) ∧ Below w.heap.size w W' := by
 have hu35 := Try.underlying35
 have hu69 := Try.underlying69
 have hmk := run_make2 l1.length (by omega)
 refine calls_of_wp Try.func49 rfl ?_
 simp only [Try.ntmps49, List.size_toArray, List.length_cons, List.length_nil, Nat.reduceAdd, Nat.reduceSub, Array.replicate_succ, Array.replicate_zero, List.push_toArray, List.append_toArray, List.nil_append, List.cons_append]
 go_wp2
 go_loopw [15] (fun i wr => ∃ k : Nat, k ≤ l1.length ∧ i = .int .i64 k ∧ Below w.heap.size w wr ∧ wr.heap[w.heap.size]? = some (.cells #[.func (.func g) #[] lb, vk] 69 (0, 0)) ∧ wr.heap[w.heap.size + 1]? = some (.cells (rowOf (effRow line s l1 k)) 2 (0, 0)))
  (fun i _ => l1.length - (intOf i).toNat)
 case atStart =>
  refine ⟨0, Nat.zero_le _, rfl, ((Below.refl _ w).alloc (Nat.le_refl _) _).alloc (by simp) _, blk_alloc (blk_new _ _) _, ?_⟩
  rw [effRow_zero]
  have := blk_new (w.alloc (.cells #[.func (.func g) #[] lb, vk] 69 (0, 0))) (.cells (rowOf (List.replicate l1.length 0)) 2 (0, 0))
  rwa [World.size_alloc] at this
 case round =>
  rename World => wq
  obtain ⟨k, hk, rfl, hb, hbf, hbl⟩ := hrel
  have hsz := blk_lt hbl
  by_cases hlt : k < l1.length
  ·obtain ⟨ad, rfl, hx0, hx1⟩ := at_T35 hr1 (k : Int) (by omega) (by omega)
   rw [rd35_get l1 k hlt, Int.toNat_natCast] at hx0 hx1
   replace hx0 := (hb.cell (World.block_lt_of_cell? w _ hx0)).trans hx0
   replace hx1 := (hb.cell (World.block_lt_of_cell? w _ hx1)).trans hx1
   obtain ⟨w2, hw2⟩ : ∃ w2, wq.alloc (.cells #[.int .i64 l1[k].f0, .int .i64 l1[k].f1] 35 (0, 0)) = w2 := ⟨_, rfl⟩
   have hb2 : Below w.heap.size w w2 := by rw [← hw2]; exact hb.alloc hb.size _
   have hbf2 : w2.heap[w.heap.size]? = some (.cells #[.func (.func g) #[] lb, vk] 69 (0, 0)) := by rw [← hw2]; exact blk_alloc hbf _
   have hbl2 : w2.heap[w.heap.size + 1]? = some (.cells (rowOf (effRow line s l1 k)) 2 (0, 0)) := by rw [← hw2]; exact blk_alloc hbl _
   have hx2 : w2.heap[wq.heap.size]? = some (.cells #[.int .i64 l1[k].f0, .int .i64 l1[k].f1] 35 (0, 0)) := by rw [← hw2]; exact blk_new _ _
   have cx0 : w2.cell? ⟨wq.heap.size, 0, none⟩ = some (.int .i64 l1[k].f0) := (blk_cell hx2 0).trans rfl
   have cx1 : w2.cell? ⟨wq.heap.size, 1, none⟩ = some (.int .i64 l1[k].f1) := (blk_cell hx2 1).trans rfl
   have cf : w2.cell? ⟨w.heap.size, 0, none⟩ = some (.func (.func g) #[] lb) := (blk_cell hbf2 0).trans rfl
   by_cases hp : 0 < l1[k].f1
   ·go_wp2
    have ca : w2.drew.cell? ⟨wq.heap.size, 1, none⟩ = some (.int .i64 l1[k].f1) := cx1
    refine start_ (n := 14) (S := fun w' => w'.cell? ⟨wq.heap.size, 1, none⟩ = some (.int .i64 l1[k].f1) ∧ w'.cell? ⟨w.heap.size, 0, none⟩ = some (.func (.func g) #[] lb) ∧ w'.cell? ⟨wq.heap.size, 0, none⟩ = some (.int .i64 l1[k].f0)) (ds := []) #[false, false, false, false, false, false, false, false, false, false, false, false, false, false] (by kernel_rfl) rfl rfl ⟨cx1, cf, cx0⟩ (fun hHeld => ?_)
    have hb3 : Below w.heap.size w w2.drew := hb2.drew
    have hbf3 := blk_drew hbf2
    have hbl3 := blk_drew hbl2
    have hx3 := blk_drew hx2
    generalize w2.drew = w3 at hb3 hbf3 hbl3 hx3 hHeld ⊢
    refine pure_ (i := 0) (N := some 23) (v := ?_) (a' := ?_) #[true, false, false, false, false, false, false, false, false, false, false, false, false, false] rfl rfl (by kernel_rfl) (fun _ _ _ h => h) (Or.inl ⟨by rfl, ?_⟩) ?_ ?_
    rotate_left
    ·intro w'
     go_simp
     with_reducible rfl
    rotate_left
    ·simp only [Act.put, List.setIfInBounds_toArray, List.set_cons_zero, List.set_cons_succ, i64_w, i32_w]
     rfl
    refine pure_ (i := 1) (N := some 24) (v := ?_) (a' := ?_) #[true, true, false, false, false, false, false, false, false, false, false, false, false, false] rfl rfl (by kernel_rfl) (fun _ _ _ h => h) (Or.inl ⟨by rfl, ?_⟩) ?_ ?_
    rotate_left
    ·intro w'
     go_simp
     with_reducible rfl
    rotate_left
    ·simp only [Act.put, List.setIfInBounds_toArray, List.set_cons_zero, List.set_cons_succ, i64_w, i32_w]
     rfl
    refine pure_ (i := 2) (N := some 25) (v := ?_) (a' := ?_) #[true, true, true, false, false, false, false, false, false, false, false, false, false, false] rfl rfl (by kernel_rfl) (fun _ _ _ h => h) (Or.inl ⟨by rfl, ?_⟩) ?_ ?_
    rotate_left
    ·intro w'
     go_simp
     with_reducible rfl
    rotate_left
    ·simp only [Act.put, List.setIfInBounds_toArray, List.set_cons_zero, List.set_cons_succ, i64_w, i32_w]
     rfl
    refine pure_ (i := 4) (N := some 27) (v := ?_) (a' := ?_) #[true, true, true, false, true, false, false, false, false, false, false, false, false, false] rfl rfl (by kernel_rfl) (fun _ _ _ h => h) (Or.inl ⟨by rfl, ?_⟩) ?_ ?_
    rotate_left
    ·intro w'
     go_simp
     with_reducible rfl
    rotate_left
    ·simp only [Act.put, List.setIfInBounds_toArray, List.set_cons_zero, List.set_cons_succ, i64_w, i32_w]
     rfl
    refine pure_ (i := 6) (N := some 29) (v := ?_) (a' := ?_) #[true, true, true, false, true, false, true, false, false, false, false, false, false, false] rfl rfl (by kernel_rfl) (fun _ _ _ h => h) (Or.inl ⟨by rfl, ?_⟩) ?_ ?_
    rotate_left
    ·intro w'
     go_simp
     with_reducible rfl
    rotate_left
    ·simp only [Act.put, List.setIfInBounds_toArray, List.set_cons_zero, List.set_cons_succ, i64_w, i32_w]
     rfl
    refine pure_ (i := 7) (N := some 30) (v := ?_) (a' := ?_) #[true, true, true, false, true, false, true, true, false, false, false, false, false, false] rfl rfl (by kernel_rfl) (fun _ _ _ h => h) (Or.inl ⟨by rfl, ?_⟩) ?_ ?_
    rotate_left
    ·intro w'
     go_simp
     with_reducible rfl
    rotate_left
    ·simp only [Act.put, List.setIfInBounds_toArray, List.set_cons_zero, List.set_cons_succ, i64_w, i32_w]
     rfl
    refine take_ (i := 3) (N := some 26) (v := ?_) (a' := ?_) #[true, true, true, true, true, false, true, true, false, false, false, false, false, false] rfl rfl (by kernel_rfl) (fun _ _ _ h => h) (Or.inl ⟨by rfl, ?_⟩) hHeld ?_ ?_
    rotate_left
    ·rintro w' ⟨s0, s1, s2⟩
     go_simp
     with_reducible rfl
    rotate_left
    ·simp only [Act.put, List.setIfInBounds_toArray, List.set_cons_zero, List.set_cons_succ, i64_w, i32_w]
     rfl
    refine take_ (i := 5) (N := some 28) (v := ?_) (a' := ?_) #[true, true, true, true, true, true, true, true, false, false, false, false, false, false] rfl rfl (by kernel_rfl) (fun _ _ _ h => h) (Or.inl ⟨by rfl, ?_⟩) hHeld ?_ ?_
    rotate_left
    ·rintro w' ⟨s0, s1, s2⟩
     go_simp
     with_reducible rfl
    rotate_left
    ·simp only [Act.put, List.setIfInBounds_toArray, List.set_cons_zero, List.set_cons_succ, i64_w, i32_w]
     rfl
    refine take_ (i := 8) (N := some 31) (v := ?_) (a' := ?_) #[true, true, true, true, true, true, true, true, true, false, false, false, false, false] rfl rfl (by kernel_rfl) (fun _ _ _ h => h) (Or.inl ⟨by rfl, ?_⟩) hHeld ?_ ?_
    rotate_left
    ·rintro w' ⟨s0, s1, s2⟩
     go_simp
     with_reducible rfl
    rotate_left
    ·simp only [Act.put, List.setIfInBounds_toArray, List.set_cons_zero, List.set_cons_succ, i64_w, i32_w]
     rfl
    refine pure_ (i := 9) (N := some 32) (v := ?_) (a' := ?_) #[true, true, true, true, true, true, true, true, true, true, false, false, false, false] rfl rfl (by kernel_rfl) (fun _ _ _ h => h) (Or.inl ⟨by rfl, ?_⟩) ?_ ?_
    rotate_left
    ·intro w'
     go_simp
     with_reducible rfl
    rotate_left
    ·simp only [Act.put, List.setIfInBounds_toArray, List.set_cons_zero, List.set_cons_succ, i64_w, i32_w]
     rfl
    refine one_ (i := 10) (N := some 33) #[true, true, true, true, true, true, true, true, true, true, true, false, false, false] rfl rfl (by kernel_rfl) (by decide) (fun K hK => ?_)
    refine call_ g (#[.int .i64 (wrap64 (s - l1[k].f0))] ++ lb) (by rfl) rfl ?_ ?_
    ·have he := hl.1 (#[.int .i64 (wrap64 (s - l1[k].f0))] ++ lb) w3
     unfold execOp
     simp [resolve, Deferred.ofValue, invoke, Act.eval, he]
    refine (hl.2 _ _ hb3).mono ?_
    rintro e w4 ⟨rfl, hb4⟩
    have hb5 := hb3.trans (hb4.mono hb3.size)
    have hbf5 := keep_below hb4 (blk_lt hbf3) hbf3
    have hbl5 := keep_below hb4 (blk_lt hbl3) hbl3
    have hx5 := keep_below hb4 (blk_lt hx3) hx3
    refine ⟨_, rfl, ?_⟩
    refine hK.out _ _ ⟨(blk_cell hx5 1).trans rfl, (blk_cell hbf5 0).trans rfl, (blk_cell hx5 0).trans rfl⟩ (fun hHeld => ?_)
    clear hK K
    refine norm_ (a' := ?_) ?_ ?_
    rotate_left
    ·show Act.put _ (some 33) _ = _
     simp only [Act.put, List.setIfInBounds_toArray, List.set_cons_zero, List.set_cons_succ, i64_w, i32_w]
     rfl
    refine pure_ (i := 11) (N := some 34) (v := ?_) (a' := ?_) #[true, true, true, true, true, true, true, true, true, true, true, true, false, false] rfl rfl (by kernel_rfl) (fun _ _ _ h => h) (Or.inl ⟨by rfl, ?_⟩) ?_ ?_
    rotate_left
    ·intro w'
     go_simp
     with_reducible rfl
    rotate_left
    ·simp only [Act.put, List.setIfInBounds_toArray, List.set_cons_zero, List.set_cons_succ, i64_w, i32_w]
     rfl
    refine pure_ (i := 12) (N := some 35) (v := ?_) (a' := ?_) #[true, true, true, true, true, true, true, true, true, true, true, true, true, false] rfl rfl (by kernel_rfl) (fun _ _ _ h => h) (Or.inl ⟨by rfl, ?_⟩) ?_ ?_
    rotate_left
    ·intro w'
     go_simp
     with_reducible rfl
    rotate_left
    ·simp only [Act.put, List.setIfInBounds_toArray, List.set_cons_zero, List.set_cons_succ, i64_w, i32_w]
     rfl
    refine one_ (i := 13) (N := none) #[true, true, true, true, true, true, true, true, true, true, true, true, true, true] rfl rfl (by kernel_rfl) (by decide) (fun K hK => ?_)
    have hs : w4.cell? ⟨w.heap.size + 1, k, none⟩ = some (.int .i64 0) := by
     rw [blk_cell hbl5 k, rowOf_get]
     have : (effRow line s l1 k)[k]? = some 0 := by
      have e : ((l1.take k).map (axleW line s)).length = k := by simp; omega
      rw [effRow, List.getElem?_append_right (by omega), e, Nat.sub_self, List.getElem?_replicate, if_pos (by omega)]
     rw [this]; rfl
    have hf5 := blk_frozen hbl5 k
    refine skip_ (w1 := ?_) (by rfl) rfl ?_ ?_
    rotate_left
    ·go_simp
     rfl
    have v5 : axleW line s l1[k] = wrap64 (l1[k].f1 * line (wrap64 (s - l1[k].f0))) := by rw [axleW, if_pos hp]
    rw [← v5]
    have hbl6 := blk_set hbl5 k (.int .i64 (axleW line s l1[k]))
    rw [rowOf_set, effRow_set line s l1 k hlt] at hbl6
    have hbf6 := blk_far hbf5 (p := ⟨w.heap.size + 1, k, none⟩) (show w.heap.size ≠ w.heap.size + 1 by omega) (.int .i64 (axleW line s l1[k]))
    have hx6 := blk_far hx5 (p := ⟨w.heap.size + 1, k, none⟩) (show wq.heap.size ≠ w.heap.size + 1 by omega) (.int .i64 (axleW line s l1[k]))
    have hb6 := hb5.setCell (p := ⟨w.heap.size + 1, k, none⟩) (show w.heap.size ≤ w.heap.size + 1 by omega) (.int .i64 (axleW line s l1[k]))
    generalize w4.setCell ⟨w.heap.size + 1, k, none⟩ (.int .i64 (axleW line s l1[k])) = w7 at hbl6 hbf6 hx6 hb6 ⊢
    refine hK.out _ _ ⟨(blk_cell hx6 1).trans rfl, (blk_cell hbf6 0).trans rfl, (blk_cell hx6 0).trans rfl⟩ (fun hHeld => ?_)
    clear hK K
    refine done_ (by kernel_rfl) ?_
    go_wp2
    exact ⟨⟨k + 1, by omega, by simp, hb6, hbf6, hbl6⟩, by simp [intOf]; omega⟩
   ·go_wp2
    refine ⟨⟨k + 1, by omega, by simp, hb2, hbf2, ?_⟩, by simp [intOf]; omega⟩
    rw [effRow_same line s l1 k hlt hp]
    exact hbl2
  ·obtain rfl : k = l1.length := by omega
   rw [effRow_all] at hbl
   obtain ⟨ks, hks⟩ := sum_ev (l1.map (axleW line s)) (by simp; omega)
   have hC := row_C hbl (by simp; omega)
   rw [List.length_map] at hC
   go_wp2_with (first | ((with_reducible refine gate_callee (f := 79) rfl ?_); refine goesL_ (some 38) rfl rfl Try.func79 (by kernel_rfl) rfl #[.slice (some ⟨w.heap.size + 1, 0, none⟩) (l1.map (axleW line s)).length l1.length] rfl (by simp only [List.map_toArray, List.map_cons, List.map_nil, List.length_map]; rfl) ?_; refine (bridge_sum.calls ks _ _ _ _ _ (by rw [List.length_map]; exact hC) (by simp) hks).mono ?_; rintro e w8 ⟨rfl, ⟨n8, rfl⟩⟩; refine ⟨_, rfl, ?_⟩))
   go_ret
   exact ⟨rfl, pw_below_drewN hb n8⟩
end Go.Proofs.Ytiklpefckadgdaa.P
namespace Go.Proofs.Ytiklpefckadgdaa.O
open Go.RowKit
section
variable {F : Fence} {n : Nat} {P : Program} {ops : Array Oper} {Q : Exit → Act → World → Prop} {md : Region.Mode}
def Closed (md : Region.Mode) (ops : Array Oper) (listed : Array Bool) : Prop :=
 ∀ j o, ops[j]? = some o → listed.getD j false = true → ∀ e ∈ o.after, Region.binds md e = true → listed.getD e.on false = true
theorem getD_set {l : Array Bool} {i j : Nat} (hi : i < l.size) : (l.setIfInBounds i true).getD j false = if i = j then true else l.getD j false := by
 by_cases h : i = j
 ·subst h; simp [Array.getD, hi]
 ·rw [if_neg h]
  simp only [Array.getD_eq_getD_getElem?, Array.getElem?_setIfInBounds_ne h]
theorem getD_same {l : Array Bool} {i : Nat} (hi : i < l.size) : (l.setIfInBounds i true).getD i false = true := by rw [getD_set hi, if_pos rfl]
theorem getD_other {l : Array Bool} {i j : Nat} (hi : i < l.size) (h : i ≠ j) : (l.setIfInBounds i true).getD j false = l.getD j false := by rw [getD_set hi, if_neg h]
theorem ready_lt {listed : Array Bool} {i : Nat} (h : i ∈ Region.ready md ops listed) : i < listed.size ∧ listed.getD i false = false := by
 have h0 := (mem_ready.1 h).1
 have : i < listed.size := by
  rcases Nat.lt_or_ge i listed.size with g | g
  ·exact g
  ·simp [Array.getD, Nat.not_lt.2 g] at h0
 refine ⟨this, ?_⟩
 simpa [Array.getD, this] using h0
theorem Closed.set {listed : Array Bool} {i : Nat} (h : Closed md ops listed) (hi : i ∈ Region.ready md ops listed) : Closed md ops (listed.setIfInBounds i true) := by
 intro j o ho hj e he hb
 obtain ⟨hlt, _⟩ := ready_lt hi
 rw [getD_set hlt] at hj ⊢
 by_cases hij : i = j
 ·subst hij
  obtain ⟨_, o', ho', hall⟩ := mem_ready.1 hi
  rw [ho] at ho'; cases ho'
  have := hall e he hb
  by_cases h2 : i = e.on
  ·rw [if_pos h2]
  ·rw [if_neg h2]; exact this
 ·rw [if_neg hij] at hj
  have := h j o ho hj e he hb
  by_cases h2 : i = e.on
  ·rw [if_pos h2]
  ·rw [if_neg h2]; exact this
theorem closed_none (k : Nat) : Closed md ops (Array.replicate k false) := by
 intro j o _ hj
 simp [Array.getD] at hj
theorem count_set {l : Array Bool} {i : Nat} (hi : i < l.size) (h0 : l.getD i false = false) : (l.setIfInBounds i true).toList.count false + 1 = l.toList.count false := by
 cases l with | mk xs =>
 simp only [List.size_toArray] at hi
 have hx : xs[i] = false := by simpa [Array.getD, hi] using h0
 have e : xs = xs.take i ++ false :: xs.drop (i + 1) := by rw [← hx, ← List.drop_eq_getElem_cons hi, List.take_append_drop]
 have e2 : xs.set i true = xs.take i ++ true :: xs.drop (i + 1) := List.set_eq_take_append_cons_drop.trans (by rw [if_pos hi])
 have c1 : xs.count false = (xs.take i ++ false :: xs.drop (i + 1)).count false := congrArg (List.count false) e
 simp only [List.setIfInBounds_toArray]
 rw [e2, c1]
 simp only [List.count_append, List.count_cons]
 simp
 omega
theorem wpAnyIn_inv (Inv : Array Bool → Act → World → Prop) (stop : Nat)
  (hstep : ∀ listed a w i, listed.size = ops.size → Closed md ops listed → Inv listed a w → i ∈ Region.ready md ops listed → i ≠ stop →
   ∀ K : Act → World → Prop, (∀ a' w', Inv (listed.setIfInBounds i true) a' w' → K a' w') → wpOpIn F n P ops Q i K a w)
  (hstop : ∀ listed a w fuel, listed.size = ops.size → Closed md ops listed → Inv listed a w → stop ∈ Region.ready md ops listed → listed.toList.count false ≤ fuel + 1 →
   wpOpIn F n P ops Q stop (wpAnyIn F n P md ops Q fuel (listed.setIfInBounds stop true)) a w)
  (hend : ∀ listed a w, listed.size = ops.size → Inv listed a w → Region.ready md ops listed = [] → Q .normal a w) :
  ∀ (fuel : Nat) (listed : Array Bool) (a : Act) (w : World), listed.size = ops.size → Closed md ops listed → Inv listed a w → listed.toList.count false ≤ fuel → wpAnyIn F n P md ops Q fuel listed a w := by
 intro fuel
 induction fuel with
 | zero =>
  intro listed a w hs hc hi hz
  have hr : Region.ready md ops listed = [] := by
   cases h : Region.ready md ops listed with
   | nil => rfl
   | cons i rs =>
    obtain ⟨h1, h2⟩ := ready_lt (md := md) (ops := ops) (listed := listed) (i := i) (by rw [h]; exact List.mem_cons_self ..)
    have := count_set h1 h2
    omega
  exact ⟨hr, hend listed a w hs hi hr⟩
 | succ fuel ih =>
  intro listed a w hs hc hi hz
  refine ⟨fun hr => hend listed a w hs hi hr, fun i hr => ?_⟩
  obtain ⟨h1, h2⟩ := ready_lt hr
  have hcount := count_set h1 h2
  by_cases e : i = stop
  ·subst e
   exact hstop listed a w fuel hs hc hi hr (by omega)
  ·exact hstep listed a w i hs hc hi hr e _ (fun a' w' hi' => ih _ a' w' (by simpa using hs) (hc.set hr) hi' (by omega))
theorem wpOpIn_of {i : Nat} {o : Oper} {a : Act} {w : World} {K : Act → World → Prop} (ho : ops[i]? = some o) (hw : Region.wanted o (yielded ops a.tmps) = true) (h : o.wpIn F n P a w K Q) : wpOpIn F n P ops Q i K a w := by
 unfold wpOpIn; simp only [ho, hw, if_true]; exact h
theorem ready_after {listed : Array Bool} {i : Nat} {o : Oper} (h : i ∈ Region.ready md ops listed) (ho : ops[i]? = some o) : ∀ e ∈ o.after, Region.binds md e = true → listed.getD e.on false = true := by
 obtain ⟨_, o', ho', hall⟩ := mem_ready.1 h
 rw [ho] at ho'; cases ho'
 exact hall
def earlier (md : Region.Mode) (ops : Array Oper) : Bool := (List.range ops.size).all fun i => match ops[i]? with
 | some o => o.after.all fun e => !Region.binds md e || decide (e.on < i)
 | none => true
theorem ready_ne {listed : Array Bool} (hs : listed.size = ops.size) (hd : earlier md ops = true) : ∀ (j : Nat), j < ops.size → listed.getD j false = false → Region.ready md ops listed ≠ [] := by
 intro j
 induction j using Nat.strongRecOn with
 | ind j ih =>
  intro hj h hr
  have hnot : j ∉ Region.ready md ops listed := by rw [hr]; simp
  refine hnot (mem_ready.2 ⟨?_, ops[j], Array.getElem?_eq_getElem hj, fun e he hb => ?_⟩)
  ·simpa [Array.getD, hs, hj] using h
  ·have h1 := List.all_eq_true.1 hd j (List.mem_range.2 hj)
   rw [Array.getElem?_eq_getElem hj] at h1
   have h2 := (Array.all_eq_true_iff_forall_mem.1 h1) e he
   have h3 : e.on < j := by simpa [hb] using h2
   cases h4 : listed.getD e.on false
   ·exact absurd hr (ih e.on h3 (by omega) h4)
   ·rfl
end
def sel (l : Array Bool) (i : Nat) (v : Value) : Value := if l.getD i false = true then v else undef
theorem sel_on {l : Array Bool} {i : Nat} (h : l.getD i false = true) (v : Value) : sel l i v = v := if_pos h
theorem sel_same {l : Array Bool} {i : Nat} (hi : i < l.size) (v : Value) : sel (l.setIfInBounds i true) i v = v := by unfold sel; rw [getD_set hi, if_pos rfl, if_pos rfl]
theorem sel_other {l : Array Bool} {i j : Nat} (hi : i < l.size) (h : i ≠ j) (v : Value) : sel (l.setIfInBounds i true) j v = sel l j v := by unfold sel; rw [getD_set hi, if_neg h]
def selOr (l : Array Bool) (i : Nat) (v u : Value) : Value := if l.getD i false = true then v else u
theorem selOr_on {l : Array Bool} {i : Nat} (h : l.getD i false = true) (v u : Value) : selOr l i v u = v := if_pos h
theorem selOr_same {l : Array Bool} {i : Nat} (hi : i < l.size) (v u : Value) : selOr (l.setIfInBounds i true) i v u = v := by unfold selOr; rw [getD_set hi, if_pos rfl, if_pos rfl]
theorem selOr_other {l : Array Bool} {i j : Nat} (hi : i < l.size) (h : i ≠ j) (v u : Value) : selOr (l.setIfInBounds i true) j v u = selOr l j v u := by unfold selOr; rw [getD_set hi, if_neg h]
theorem arr11 {l : Array Bool} (h : l.size = 11) : l = #[l.getD 0 false, l.getD 1 false, l.getD 2 false, l.getD 3 false, l.getD 4 false, l.getD 5 false, l.getD 6 false, l.getD 7 false, l.getD 8 false, l.getD 9 false, l.getD 10 false] := by
 obtain ⟨xs⟩ := l
 match xs, h with
 | [a, b, c, d, e, f, g, h, i, j, k], _ => rfl
end Go.Proofs.Ytiklpefckadgdaa.O
namespace Go.Proofs.Ytiklpefckadgdaa.P
open Go.RowKit Go.Shelf Go.Proofs.Ytiklpefckadgdaa.O Go.Proofs.YtiklpefckadgdaaW.PrintWords Go.Proofs.YtiklpefckadgdaaW.PrintLast Go.Proofs.YtiklpefckadgdaaW.PrintMore
attribute [local go_sem] Oper.semAt_some
theorem callsIn_w {n : Nat} {f : Nat} {args : Array Value} {w : World} {R : Ending → World → Prop} (h : Calls Try.prog f args w R) : CallsIn Fence.wide n Try.prog f args w R := callsIn_wide.2 h
set_option maxHeartbeats 1000000 in
theorem breaks_make (v1 v2 : Value) (A1 : Option Addr) (n1 c1 : Nat) (w : World) :
  CallsIn Fence.wide 0 Try.prog 74 #[.agg #[v1, v2], .slice A1 n1 c1] w fun e w' => e = .returned (.func (.func 90) #[] #[.pointer (some ⟨w.heap.size + 1, 0, none⟩), .pointer (some ⟨w.heap.size, 0, none⟩)]) ∧ w' = (w.alloc (.cells #[v1, v2] 69 (0, 0))).alloc (.cells #[.slice A1 n1 c1] 25 (0, 0)) := by
 have hu69 := Try.underlying69
 refine callsIn_of_wp Try.func74 rfl trivial ?_ rfl
 simp only [Try.ntmps74, List.size_toArray, List.length_cons, List.length_nil, Nat.reduceAdd, Nat.reduceSub, Array.replicate_succ, Array.replicate_zero, List.push_toArray, List.append_toArray, List.nil_append, List.cons_append]
 gi_wp2
 go_ret
 exact ⟨rfl, rfl⟩
theorem LineFn.below {g : Nat} {lb : Array Value} {line : Int → Int} {w w' : World} (h : LineFn g lb line w) (hb : Below w.heap.size w w') : LineFn g lb line w' :=
 ⟨h.1, fun a W hW => h.2 a W (hb.trans (hW.mono hb.size))⟩
def effV (x : S29) : Array Value := #[.agg #[.int .i64 x.f0, .int .i64 x.f1, .int .i64 x.f2, .int .i64 x.f3]]
def effectsL (line : Int → Int) (l : List S35) (ks : List Int) (span point : Int) : List S29 := (breaksL l ks).map fun s => ⟨effW line l s, span, point, s⟩
set_option maxRecDepth 100000 in
set_option maxHeartbeats 4000000 in
theorem worst_seq (g : Nat) (lb : Array Value) (line : Int → Int) (Bf Bt Bs Bp c1 c2 : Nat) (A1 A2 : Option Addr) (l1 : List S35) (ks : List Int) (span point : Int) (w0 : World)
  (hl : LineFn g lb line w0) (hlen : l1.length ≤ 1000)
  (hf : w0.heap[Bf]? = some (.cells #[.func (.func g) #[] lb, .slice A2 ks.length c2] 69 (0, 0))) (ht : w0.heap[Bt]? = some (.cells #[.slice A1 l1.length c1] 25 (0, 0)))
  (hs0 : w0.heap[Bs]? = some (.cells #[.int .i64 span] 3 (0, 0))) (hp : w0.heap[Bp]? = some (.cells #[.int .i64 point] 2 (0, 0)))
  (hr1 : Kd.C k35 w0 A1 l1.length l1) (hr2 : Kd.C (Kd.int .i64) w0 A2 ks.length ks) :
  SeqO Try.prog 73 #[.pointer (some ⟨Bf, 0, none⟩), .pointer (some ⟨Bt, 0, none⟩), .pointer (some ⟨Bs, 0, none⟩), .pointer (some ⟨Bp, 0, none⟩)] effV (effectsL line l1 ks span point) (fun _ => False) w0 := by
 intro l J Jx W hW hJ hJx hY h0
 have hu69 := Try.underlying69
 have hu29 := Try.underlying29
 obtain ⟨W2, hW2⟩ : ∃ W2, W.alloc (.cells #[.func (.yield l) #[] #[]] 94 (0, 0)) = W2 := ⟨_, rfl⟩
 have hb2 : Below W.heap.size W W2 := by rw [← hW2]; exact (Below.refl _ _).alloc (Nat.le_refl _) _
 have hy2 : W2.heap[W.heap.size]? = some (.cells #[.func (.yield l) #[] #[]] 94 (0, 0)) := by rw [← hW2]; exact blk_new _ _
 have cf0' : W2.cell? ⟨Bf, 0, none⟩ = some (.func (.func g) #[] lb) := (blk_cell (keep_below (hW.trans (hb2.mono hW.size)) (blk_lt hf) hf) 0).trans rfl
 have cf1' : W2.cell? ⟨Bf, 1, none⟩ = some (.slice A2 ks.length c2) := (blk_cell (keep_below (hW.trans (hb2.mono hW.size)) (blk_lt hf) hf) 1).trans rfl
 have ct' : W2.cell? ⟨Bt, 0, none⟩ = some (.slice A1 l1.length c1) := (blk_cell (keep_below (hW.trans (hb2.mono hW.size)) (blk_lt ht) ht) 0).trans rfl
 refine callsIn_of_wp_marks Try.func73 rfl trivial ?_ rfl
 simp only [Try.ntmps73, List.size_toArray, List.length_cons, List.length_nil, Nat.reduceAdd, Nat.reduceSub, Array.replicate_succ, Array.replicate_zero, List.push_toArray, List.append_toArray, List.nil_append, List.cons_append]
 gi_wp2
 refine ⟨trivial, rfl, (breaks_make _ _ _ _ _ _).mono ?_⟩
 rintro e W4 ⟨rfl, hW4⟩
 have hsz2 : W2.heap.size = W.heap.size + 1 := by rw [← hW2]; simp
 have hf4 : W4.heap[W2.heap.size]? = some (.cells #[.func (.func g) #[] lb, .slice A2 ks.length c2] 69 (0, 0)) := by rw [hW4]; exact blk_alloc (blk_new _ _) _
 have ht4 : W4.heap[W2.heap.size + 1]? = some (.cells #[.slice A1 l1.length c1] 25 (0, 0)) := by
  rw [hW4]; have := blk_new (W2.alloc (.cells #[.func (.func g) #[] lb, .slice A2 ks.length c2] 69 (0, 0))) (.cells #[.slice A1 l1.length c1] 25 (0, 0)); rwa [World.size_alloc] at this
 have hb24 : Below W2.heap.size W2 W4 := by rw [hW4]; exact ((Below.refl _ _).alloc (Nat.le_refl _) _).alloc (by simp) _
 have hb4 : Below W.heap.size W W4 := hb2.trans (hb24.mono (by omega))
 have hy4 := keep_below hb24 (by omega) hy2
 have hz4 : W4.heap.size = W.heap.size + 3 := by rw [hW4]; simp; omega
 have h04 : Below w0.heap.size w0 W4 := hW.trans (hb4.mono hW.size)
 have hszW := hW.size
 clear hW4
 rw [hsz2] at hf4 ht4
 gi_wp2
 refine wpIn_rangeFunc_O (gf := 90) (lb := #[.pointer (some ⟨W.heap.size + 1 + 1, 0, none⟩), .pointer (some ⟨W.heap.size + 1, 0, none⟩)]) rfl (enters_of Try.func90 (by kernel_rfl) rfl)
  (encs := fun x : Int => #[.int .i64 x]) (L := breaksL l1 ks) (T := Tor (fun _ => False) w0.heap.size W.heap.size) (w0 := W4)
  (fun l' J' Jx' W' hW' hJ' _ hY' h0' => by
   have hz' := hW'.size
   exact breaks_in l' (W.heap.size + 1 + 1) (W.heap.size + 1) c1 c2 A1 A2 _ l1 ks J' Jx' (Tor (Tor (fun _ => False) w0.heap.size W.heap.size) W4.heap.size W'.heap.size) w0 W'
    (fun k h => by rcases h with (h | h) | h; exact h.elim; omega; omega) (fun h => by rcases h with (h | h) | h; exact h.elim; omega; omega)
    (h04.trans (hW'.mono h04.size)) hJ' hY' (keep_below hW' (by omega) ht4) (keep_below hW' (by omega) hf4) hr1 hr2 h0')
  (fun k h => by rcases h with h | h; exact h.elim; omega)
  (Below.refl _ _) (fun _ => rfl)
  (fun pre V => J (pre.map fun s => ⟨effW line l1 s, span, point, s⟩) V ∧ Below w0.heap.size w0 V ∧ V.heap[W.heap.size]? = some (.cells #[.func (.yield l) #[] #[]] 94 (0, 0)) ∧ W4.heap.size ≤ V.heap.size)
  (fun pre V => Jx (pre.map fun s => ⟨effW line l1 s, span, point, s⟩) V)
  ?hI ?hIx ⟨by simpa using hJ _ _ _ h0 hb4, h04, hy4, Nat.le_refl _⟩
  (fun s a' _ => a' = { tmps := #[.func (.yield l) #[] #[], .pointer (some ⟨Bf, 0, none⟩), .pointer (some ⟨Bt, 0, none⟩), .pointer (some ⟨Bs, 0, none⟩), .pointer (some ⟨Bp, 0, none⟩), .pointer (some ⟨W.heap.size, 0, none⟩), .int .i64 s, .agg #[.func (.func g) #[] lb, .slice A2 ks.length c2], .slice A1 l1.length c1, .func (.func 90) #[] #[.pointer (some ⟨W.heap.size + 1 + 1, 0, none⟩), .pointer (some ⟨W.heap.size + 1, 0, none⟩)], .int .i64 s, undef, undef, undef, undef, undef, undef, undef, undef, undef, undef, undef], defers := [] })
  (fun _ _ _ _ _ h _ => h) ?assign ?body ?done ?stop
 case hI =>
  rintro s A B ⟨g1, g2, g3, g4⟩ hb
  have := hb.size
  exact ⟨hJ _ _ _ g1 (hb.mono (by omega)), g2.trans (hb.mono (by omega)), keep_below hb (by omega) g3, by omega⟩
 case hIx =>
  intro s A B g1 hb
  exact hJx _ _ _ g1 (hb.mono (by omega))
 case assign =>
  intro l' pre x V K hi hpre hz hK
  gi_wp2
  exact hK _ _ (Below.refl _ _) rfl
 case body =>
  rintro l' pre x a' V ⟨g1, g2, g3, g4⟩ hpre hz rfl
  gi_wp2
  refine wpIn_region_any (by kernel_rfl) ?_
  change wpAnyIn _ _ _ _ _ _ _ _ _ (World.drew V)
  refine wpAnyIn_inv (fun listed a V' => listed.getD 9 false = false ∧ a = { tmps := #[.func (.yield l) #[] #[], .pointer (some ⟨Bf, 0, none⟩), .pointer (some ⟨Bt, 0, none⟩), .pointer (some ⟨Bs, 0, none⟩), .pointer (some ⟨Bp, 0, none⟩), .pointer (some ⟨W.heap.size, 0, none⟩), .int .i64 x, .agg #[.func (.func g) #[] lb, .slice A2 ks.length c2], .slice A1 l1.length c1, .func (.func 90) #[] #[.pointer (some ⟨W.heap.size + 1 + 1, 0, none⟩), .pointer (some ⟨W.heap.size + 1, 0, none⟩)], .int .i64 x,
    sel listed 0 (.func (.yield l) #[] #[]), sel listed 1 (.agg #[.func (.func g) #[] lb, .slice A2 ks.length c2]), sel listed 2 (.slice A1 l1.length c1), sel listed 3 (.int .i64 x), sel listed 4 (.int .i64 (effW line l1 x)), sel listed 5 (.int .i64 span), sel listed 6 (.int .i64 point), sel listed 7 (.int .i64 x), sel listed 8 (.agg #[.int .i64 (effW line l1 x), .int .i64 span, .int .i64 point, .int .i64 x]), undef, undef], defers := [] } ∧
    (J (pre.map fun s => ⟨effW line l1 s, span, point, s⟩) V' ∧ Below w0.heap.size w0 V' ∧ V'.heap[W.heap.size]? = some (.cells #[.func (.yield l) #[] #[]] 94 (0, 0)) ∧ W4.heap.size ≤ V'.heap.size) ∧ Below V.heap.size V V')
   9 ?step ?stop2 ?fin 11 _ _ _ (by simp) (closed_none _) ⟨by simp, by simp [sel], ⟨hJ _ _ _ g1 (Below.refl _ _).drew, g2.drew, g3, g4⟩, (Below.refl _ _).drew⟩ (by simp)
  case step =>
   rintro listed a V' i hs hc ⟨h9, rfl, ⟨k1, k2, k3, k4⟩, k5⟩ hr hne K hK
   obtain ⟨hlt, hl0⟩ := ready_lt hr
   have hi : i = 0 ∨ i = 1 ∨ i = 2 ∨ i = 3 ∨ i = 4 ∨ i = 5 ∨ i = 6 ∨ i = 7 ∨ i = 8 ∨ i = 10 := by simp at hs; omega
   rcases hi with rfl | rfl | rfl | rfl | rfl | rfl | rfl | rfl | rfl | rfl
   ·refine wpOpIn_of rfl rfl ?_
    have cy := (blk_cell k3 0).trans (rfl : _ = some (Value.func (.yield l) #[] #[]))
    clear hr hl0
    gi_wp2
    refine ⟨by rw [getD_set hlt, if_neg (by decide)]; exact h9, ?_, ⟨k1, k2, k3, k4⟩, k5⟩
    simp (disch := decide) only [sel_same hlt, sel_other hlt]
   ·refine wpOpIn_of rfl rfl ?_
    have c0 : V'.cell? ⟨Bf, 0, none⟩ = some (.func (.func g) #[] lb) := (blk_cell (keep_below k2 (blk_lt hf) hf) 0).trans rfl
    have c1 : V'.cell? ⟨Bf, 1, none⟩ = some (.slice A2 ks.length c2) := (blk_cell (keep_below k2 (blk_lt hf) hf) 1).trans rfl
    clear hr hl0
    gi_wp2
    refine ⟨by rw [getD_set hlt, if_neg (by decide)]; exact h9, ?_, ⟨k1, k2, k3, k4⟩, k5⟩
    simp (disch := decide) only [sel_same hlt, sel_other hlt]
   ·refine wpOpIn_of rfl rfl ?_
    have c0 : V'.cell? ⟨Bt, 0, none⟩ = some (.slice A1 l1.length c1) := (blk_cell (keep_below k2 (blk_lt ht) ht) 0).trans rfl
    clear hr hl0
    gi_wp2
    refine ⟨by rw [getD_set hlt, if_neg (by decide)]; exact h9, ?_, ⟨k1, k2, k3, k4⟩, k5⟩
    simp (disch := decide) only [sel_same hlt, sel_other hlt]
   ·refine wpOpIn_of rfl rfl ?_
    clear hr hl0
    gi_wp2
    refine ⟨by rw [getD_set hlt, if_neg (by decide)]; exact h9, ?_, ⟨k1, k2, k3, k4⟩, k5⟩
    simp (disch := decide) only [sel_same hlt, sel_other hlt]
   ·refine wpOpIn_of rfl rfl ?_
    have d1 : listed.getD 1 false = true := ready_after hr rfl { on := 1, ground := .data } (by simp) rfl
    have d2 : listed.getD 2 false = true := ready_after hr rfl { on := 2, ground := .data } (by simp) rfl
    have d3 : listed.getD 3 false = true := ready_after hr rfl { on := 3, ground := .data } (by simp) rfl
    simp only [sel_on d1, sel_on d2, sel_on d3]
    clear hr hl0
    gi_wp2
    refine ⟨trivial, rfl, (CallsIn.inRound l' (callsIn_w (effect_calls g lb line _ A1 c1 l1 x V' (hl.below k2) (Kd.C_below hr1 k2) hlen))).mono ?_⟩
    rintro e V5 ⟨rfl, hb5⟩
    gi_wp2
    refine ⟨by rw [getD_set hlt, if_neg (by decide)]; exact h9, ?_, ⟨hJ _ _ _ k1 (hb5.mono (by omega)), k2.trans (hb5.mono (by omega)), keep_below hb5 (by omega) k3, by have := hb5.size; omega⟩, k5.trans (hb5.mono k5.size)⟩
    simp (disch := decide) only [sel_same hlt, sel_other hlt, sel_on d1, sel_on d2, sel_on d3]
   ·refine wpOpIn_of rfl rfl ?_
    have c0 : V'.cell? ⟨Bs, 0, none⟩ = some (.int .i64 span) := (blk_cell (keep_below k2 (blk_lt hs0) hs0) 0).trans rfl
    clear hr hl0
    gi_wp2
    refine ⟨by rw [getD_set hlt, if_neg (by decide)]; exact h9, ?_, ⟨k1, k2, k3, k4⟩, k5⟩
    simp (disch := decide) only [sel_same hlt, sel_other hlt]
   ·refine wpOpIn_of rfl rfl ?_
    have c0 : V'.cell? ⟨Bp, 0, none⟩ = some (.int .i64 point) := (blk_cell (keep_below k2 (blk_lt hp) hp) 0).trans rfl
    clear hr hl0
    gi_wp2
    refine ⟨by rw [getD_set hlt, if_neg (by decide)]; exact h9, ?_, ⟨k1, k2, k3, k4⟩, k5⟩
    simp (disch := decide) only [sel_same hlt, sel_other hlt]
   ·refine wpOpIn_of rfl rfl ?_
    clear hr hl0
    gi_wp2
    refine ⟨by rw [getD_set hlt, if_neg (by decide)]; exact h9, ?_, ⟨k1, k2, k3, k4⟩, k5⟩
    simp (disch := decide) only [sel_same hlt, sel_other hlt]
   ·refine wpOpIn_of rfl rfl ?_
    have d4 : listed.getD 4 false = true := ready_after hr rfl { on := 4, ground := .data } (by simp) rfl
    have d5 : listed.getD 5 false = true := ready_after hr rfl { on := 5, ground := .data } (by simp) rfl
    have d6 : listed.getD 6 false = true := ready_after hr rfl { on := 6, ground := .data } (by simp) rfl
    have d7 : listed.getD 7 false = true := ready_after hr rfl { on := 7, ground := .data } (by simp) rfl
    simp only [sel_on d4, sel_on d5, sel_on d6, sel_on d7]
    clear hr hl0
    gi_wp2
    refine ⟨by rw [getD_set hlt, if_neg (by decide)]; exact h9, ?_, ⟨k1, k2, k3, k4⟩, k5⟩
    simp (disch := decide) only [sel_same hlt, sel_other hlt, sel_on d4, sel_on d5, sel_on d6, sel_on d7]
   ·have := ready_after hr rfl { on := 9, ground := .data } (by simp) rfl
    rw [h9] at this; cases this
  case stop2 =>
   rintro listed a V' fuel hs hc ⟨h9, rfl, ⟨k1, k2, k3, k4⟩, k5⟩ hr hfuel
   have d0 : listed.getD 0 false = true := ready_after hr rfl { on := 0, ground := .data } (by simp) rfl
   have d8 : listed.getD 8 false = true := ready_after hr rfl { on := 8, ground := .data } (by simp) rfl
   have d4 : listed.getD 4 false = true := hc 8 _ rfl d8 { on := 4, ground := .data } (by simp) rfl
   have d5 : listed.getD 5 false = true := hc 8 _ rfl d8 { on := 5, ground := .data } (by simp) rfl
   have d6 : listed.getD 6 false = true := hc 8 _ rfl d8 { on := 6, ground := .data } (by simp) rfl
   have d7 : listed.getD 7 false = true := hc 8 _ rfl d8 { on := 7, ground := .data } (by simp) rfl
   have d1 : listed.getD 1 false = true := hc 4 _ rfl d4 { on := 1, ground := .data } (by simp) rfl
   have d2 : listed.getD 2 false = true := hc 4 _ rfl d4 { on := 2, ground := .data } (by simp) rfl
   have d3 : listed.getD 3 false = true := hc 4 _ rfl d4 { on := 3, ground := .data } (by simp) rfl
   have d10 : listed.getD 10 false = false := by
    cases h : listed.getD 10 false
    ·rfl
    ·have := hc 10 _ rfl h { on := 9, ground := .data } (by simp) rfl
     rw [h9] at this; cases this
   have hl := arr11 (l := listed) (by simpa using hs)
   rw [d0, d1, d2, d3, d4, d5, d6, d7, d8, h9, d10] at hl
   subst hl
   have hpx : (pre.map fun s => (⟨effW line l1 s, span, point, s⟩ : S29)) ++ [⟨effW line l1 x, span, point, x⟩] <+: effectsL line l1 ks span point := by
    have := hpre.map (fun s => (⟨effW line l1 s, span, point, s⟩ : S29))
    simpa only [effectsL, List.map_append, List.map_cons, List.map_nil] using this
   obtain ⟨fn, tmps, assign, body, hy, hR⟩ := hY _ _ V' k1 hpx
   refine wpOpIn_of rfl rfl ?_
   simp only [sel_on d0, sel_on d1, sel_on d2, sel_on d3, sel_on d4, sel_on d5, sel_on d6, sel_on d7, sel_on d8]
   dsimp only [effV] at hy
   gi_wp2
   refine ⟨rfl, hR.mono ?_⟩
   rintro e V5 (⟨rfl, hJ5, hm5⟩ | ⟨rfl, hJ5, hm5⟩)
   all_goals
    obtain ⟨fuel', rfl⟩ : ∃ f, fuel = f + 1 := ⟨fuel - 1, by simp at hfuel; omega⟩
    refine wpAnyIn_ready (rs := [10]) (by kernel_rfl) (by simp) (AllReadyIn.cons rfl (fun K hK => ?_) AllReadyIn.nil)
    gi_wp2
    refine wpAnyIn_done (by kernel_rfl) ?_ _
    gi_wp2
    have hVW : Turns (Tor (Tor (fun _ => False) w0.heap.size W.heap.size) W4.heap.size W4.heap.size) V V5 := (Turns.of_below k5).trans (hm5.weaken (fun k h => .inl h))
   ·refine ⟨hVW, ?_, k2.trans (hm5.below (fun k h => by rcases h with h | h; exact h.elim; omega) k2.size), hm5.keeps (fun h => by rcases h with h | h; exact h.elim; omega) k3, by have := hm5.size; omega⟩
    simpa only [List.map_append, List.map_cons, List.map_nil] using hJ5
   ·refine ⟨hVW, ?_⟩
    simpa only [List.map_append, List.map_cons, List.map_nil] using hJ5
  case fin =>
   rintro listed a V' hs ⟨h9, _⟩ hr
   exact absurd hr (ready_ne hs (by kernel_rfl) 9 (by simp) h9)
 case done =>
  rintro D V hD ⟨g1, g2, g3, g4⟩ hK
  gi_wp2
  refine ⟨by simp, .inl ⟨_, _, rfl, run_takeDeferred hK, ?_⟩⟩
  exact ⟨_, results_none rfl _ _ _, ⟨_, rfl⟩, .inl (hJ _ _ _ g1 (below_putObj V _ (by omega)))⟩
 case stop =>
  rintro D pre V hD hpre g1 hK
  gi_wp2
  refine ⟨by simp, .inl ⟨_, _, rfl, run_takeDeferred hK, ?_⟩⟩
  exact ⟨_, results_none rfl _ _ _, ⟨_, rfl⟩, .inr ⟨_, hpre.map _, hJx _ _ _ g1 (below_putObj V _ (by omega))⟩⟩
end Go.Proofs.Ytiklpefckadgdaa.P
namespace Go.Proofs.Ytiklpefckadgdaa.P
open Go.RowKit Go.Shelf Go.Proofs.Ytiklpefckadgdaa.O Go.Proofs.YtiklpefckadgdaaW.PrintWords Go.Proofs.YtiklpefckadgdaaW.PrintLast Go.Proofs.YtiklpefckadgdaaW.PrintMore
attribute [local go_sem] Oper.semAt_some
def effC (x : S29) : Array Value := #[.int .i64 x.f0, .int .i64 x.f1, .int .i64 x.f2, .int .i64 x.f3]
def bestStep (lt : S29 → S29 → Bool) (o : Option S29) (x : S29) : Option S29 := match o with
 | none => some x
 | some b => if lt b x = true then some x else some b
def bestO (lt : S29 → S29 → Bool) (l : List S29) : Option S29 := l.foldl (bestStep lt) none
theorem bestO_snoc (lt : S29 → S29 → Bool) (l : List S29) (x : S29) : bestO lt (l ++ [x]) = bestStep lt (bestO lt l) x := by simp [bestO]
def LessFn (g : Nat) (lt : S29 → S29 → Bool) : Prop :=
 (∀ args w, (callFunc g args).run Try.prog w = .ok (.enter g args) w) ∧ ∀ a b W, Calls Try.prog g #[.agg (effC a), .agg (effC b)] W fun e W' => e = .returned (.bool (lt a b)) ∧ Below W.heap.size W W'
theorem cells4 {V : World} {B : Nat} {b : S29} (h : V.heap[B]? = some (.cells (effC b) 29 (0, 0))) :
  (V.cell? ⟨B, 0, none⟩ = some (.int .i64 b.f0) ∧ V.cell? ⟨B, 1, none⟩ = some (.int .i64 b.f1) ∧ V.cell? ⟨B, 2, none⟩ = some (.int .i64 b.f2) ∧ V.cell? ⟨B, 3, none⟩ = some (.int .i64 b.f3)) ∧
  (V.frozen? ⟨B, 0, none⟩ = false ∧ V.frozen? ⟨B, 1, none⟩ = false ∧ V.frozen? ⟨B, 2, none⟩ = false ∧ V.frozen? ⟨B, 3, none⟩ = false) :=
 ⟨⟨(blk_cell h 0).trans rfl, (blk_cell h 1).trans rfl, (blk_cell h 2).trans rfl, (blk_cell h 3).trans rfl⟩, blk_frozen h 0, blk_frozen h 1, blk_frozen h 2, blk_frozen h 3⟩
def put4 (V : World) (B : Nat) (x : S29) : World := (((V.setCell ⟨B, 0, none⟩ (.int .i64 x.f0)).setCell ⟨B, 1, none⟩ (.int .i64 x.f1)).setCell ⟨B, 2, none⟩ (.int .i64 x.f2)).setCell ⟨B, 3, none⟩ (.int .i64 x.f3)
theorem put4_blk {V : World} {B : Nat} {b : S29} (x : S29) (h : V.heap[B]? = some (.cells (effC b) 29 (0, 0))) : (put4 V B x).heap[B]? = some (.cells (effC x) 29 (0, 0)) := by
 have := blk_set (blk_set (blk_set (blk_set h 0 (.int .i64 x.f0)) 1 (.int .i64 x.f1)) 2 (.int .i64 x.f2)) 3 (.int .i64 x.f3)
 exact this
theorem put4_far {V : World} {B k : Nat} {x : S29} (hk : k ≠ B) : (put4 V B x).heap[k]? = V.heap[k]? := by
 unfold put4
 rw [Below.heap_setCell _ _ _ _ hk, Below.heap_setCell _ _ _ _ hk, Below.heap_setCell _ _ _ _ hk, Below.heap_setCell _ _ _ _ hk]
theorem put4_below {V : World} {B : Nat} {x : S29} {A : Nat} (h : A ≤ B) : Below A V (put4 V B x) :=
 ((((Below.refl _ _).setCell (p := ⟨B, 0, none⟩) h _).setCell (p := ⟨B, 1, none⟩) h _).setCell (p := ⟨B, 2, none⟩) h _).setCell (p := ⟨B, 3, none⟩) h _
theorem put4_turns {V : World} {B : Nat} {x : S29} {T : Nat → Prop} (h : T B) : Turns T V (put4 V B x) :=
 (((Turns.setCell V ⟨B, 0, none⟩ _ h).trans (Turns.setCell _ ⟨B, 1, none⟩ _ h)).trans (Turns.setCell _ ⟨B, 2, none⟩ _ h)).trans (Turns.setCell _ ⟨B, 3, none⟩ _ h)
set_option maxRecDepth 100000 in
set_option maxHeartbeats 4000000 in
theorem best_in (gf lf : Nat) (lb : Array Value) (L : List S29) (lt : S29 → S29 → Bool) (w0 : World)
  (hg : ∀ args w, (callFunc gf args).run Try.prog w = .ok (.enter gf args) w)
  (hseq : SeqO Try.prog gf lb effV L (fun _ => False) w0) (hless : LessFn lf lt) :
  CallsIn Fence.wide 0 Try.prog 66 #[.func (.func gf) #[] lb, .func (.func lf) #[] #[]] w0 fun e W' => e = .returned (.agg (effC ((bestO lt L).getD z29))) ∧ Below w0.heap.size w0 W' := by
 have hu29 := Try.underlying29
 obtain ⟨w1, hw1⟩ : ∃ w1, ((w0.alloc (.cells #[.func (.func lf) #[] #[]] 92 (0, 0))).alloc (.cells (effC z29) 29 (0, 0))).alloc (.cells #[.bool true] 4 (0, 0)) = w1 := ⟨_, rfl⟩
 have hb1 : Below w0.heap.size w0 w1 := by rw [← hw1]; exact (((Below.refl _ _).alloc (Nat.le_refl _) _).alloc (by simp) _).alloc (by simp; omega) _
 have hz1 : w1.heap.size = w0.heap.size + 3 := by rw [← hw1]; simp
 have h1 : w1.heap[w0.heap.size]? = some (.cells #[.func (.func lf) #[] #[]] 92 (0, 0)) := by rw [← hw1]; exact blk_alloc (blk_alloc (blk_new _ _) _) _
 have h2 : w1.heap[w0.heap.size + 1]? = some (.cells (effC z29) 29 (0, 0)) := by
  rw [← hw1]; have := blk_alloc (blk_new (w0.alloc (.cells #[.func (.func lf) #[] #[]] 92 (0, 0))) (.cells (effC z29) 29 (0, 0))) (.cells #[.bool true] 4 (0, 0)); rwa [World.size_alloc] at this
 have h3 : w1.heap[w0.heap.size + 1 + 1]? = some (.cells #[.bool true] 4 (0, 0)) := by
  rw [← hw1]; have := blk_new ((w0.alloc (.cells #[.func (.func lf) #[] #[]] 92 (0, 0))).alloc (.cells (effC z29) 29 (0, 0))) (.cells #[.bool true] 4 (0, 0)); rwa [World.size_alloc, World.size_alloc] at this
 simp only [effC, z29] at hw1
 refine callsIn_of_wp_marks Try.func66 rfl trivial ?_ rfl
 simp only [Try.ntmps66, List.size_toArray, List.length_cons, List.length_nil, Nat.reduceAdd, Nat.reduceSub, Array.replicate_succ, Array.replicate_zero, List.push_toArray, List.append_toArray, List.nil_append, List.cons_append]
 gi_wp2
 refine wpIn_rangeFunc_O (gf := gf) (lb := lb) rfl hg (encs := effV) (L := L) (T := fun _ => False) (w0 := w0) hseq (fun _ h => h.elim) hb1 (fun _ => rfl)
  (fun pre V => Below w0.heap.size w0 V ∧ w1.heap.size ≤ V.heap.size ∧ V.heap[w0.heap.size]? = some (.cells #[.func (.func lf) #[] #[]] 92 (0, 0)) ∧ V.heap[w0.heap.size + 1]? = some (.cells (effC ((bestO lt pre).getD z29)) 29 (0, 0)) ∧ V.heap[w0.heap.size + 1 + 1]? = some (.cells #[.bool (bestO lt pre).isNone] 4 (0, 0)))
  (fun _ _ => False) ?hI (fun _ _ _ h _ => h.elim) ⟨hb1, Nat.le_refl _, h1, h2, h3⟩
  (fun x a' V => ∃ Bx, w1.heap.size ≤ Bx ∧ V.heap[Bx]? = some (.cells (effC x) 29 (0, 0)) ∧ a' = { tmps := #[.func (.func gf) #[] lb, .func (.func lf) #[] #[], undef, .pointer (some ⟨w0.heap.size, 0, none⟩), .pointer (some ⟨w0.heap.size + 1, 0, none⟩), .pointer (some ⟨w0.heap.size + 1 + 1, 0, none⟩), .pointer (some ⟨Bx, 0, none⟩), .func (.func gf) #[] lb, .agg (effC x), undef, undef, undef, undef, undef, undef, undef, undef, undef], defers := [] })
  ?hAx ?assign ?body ?done ?stop
 case hI =>
  rintro s A B ⟨g1, g2, g3, g4, g5⟩ hb
  have := hb.size
  exact ⟨g1.trans (hb.mono (by omega)), by omega, keep_below hb (by omega) g3, keep_below hb (by omega) g4, keep_below hb (by omega) g5⟩
 case hAx =>
  rintro x a' V r o ⟨Bx, hB, hx, rfl⟩ hr
  exact ⟨Bx, hB, (World.putObj_heap_other (fun e => by subst e; rw [hx] at hr; cases hr)).trans hx, rfl⟩
 case assign =>
  rintro l' pre x V K ⟨g1, g2, g3, g4, g5⟩ hpre hz hK
  dsimp only [effV]
  gi_wp2
  exact hK _ _ ((Below.refl _ _).alloc (Nat.le_refl _) _) ⟨V.heap.size, hz, blk_new _ _, rfl⟩
 case body =>
  rintro l' pre x a' V ⟨g1, g2, g3, g4, g5⟩ hpre hz ⟨Bx, hBx, hx, rfl⟩
  dsimp only [effC]
  have n1 : w0.heap.size + 1 ≠ w0.heap.size + 1 + 1 := by omega
  obtain ⟨⟨x0, x1, x2, x3⟩, _⟩ := cells4 hx
  have cl : V.cell? ⟨w0.heap.size, 0, none⟩ = some (.func (.func lf) #[] #[]) := (blk_cell g3 0).trans rfl
  have hb : bestO lt (pre ++ [x]) = bestStep lt (bestO lt pre) x := bestO_snoc lt pre x
  have hT1 : Tor (fun _ => False) w0.heap.size w1.heap.size (w0.heap.size + 1) := .inr ⟨by omega, by omega⟩
  have hT2 : Tor (fun _ => False) w0.heap.size w1.heap.size (w0.heap.size + 1 + 1) := .inr ⟨by omega, by omega⟩
  -- the store of x and of 'false', from a world on in which all lies
  have fin : ∀ V2 : World, Turns (Tor (fun _ => False) w0.heap.size w1.heap.size) V V2 → Below w0.heap.size w0 V2 → w1.heap.size ≤ V2.heap.size → V2.heap[w0.heap.size]? = some (.cells #[.func (.func lf) #[] #[]] 92 (0, 0)) →
    (∃ b, V2.heap[w0.heap.size + 1]? = some (.cells (effC b) 29 (0, 0))) → (∃ v, V2.heap[w0.heap.size + 1 + 1]? = some (.cells #[.bool v] 4 (0, 0))) → ∀ L2, bestO lt L2 = some x →
    Turns (Tor (fun _ => False) w0.heap.size w1.heap.size) V ((put4 V2 (w0.heap.size + 1) x).setCell ⟨w0.heap.size + 1 + 1, 0, none⟩ (.bool false)) ∧ (Below w0.heap.size w0 ((put4 V2 (w0.heap.size + 1) x).setCell ⟨w0.heap.size + 1 + 1, 0, none⟩ (.bool false)) ∧ w1.heap.size ≤ ((put4 V2 (w0.heap.size + 1) x).setCell ⟨w0.heap.size + 1 + 1, 0, none⟩ (.bool false)).heap.size ∧ ((put4 V2 (w0.heap.size + 1) x).setCell ⟨w0.heap.size + 1 + 1, 0, none⟩ (.bool false)).heap[w0.heap.size]? = some (.cells #[.func (.func lf) #[] #[]] 92 (0, 0)) ∧ ((put4 V2 (w0.heap.size + 1) x).setCell ⟨w0.heap.size + 1 + 1, 0, none⟩ (.bool false)).heap[w0.heap.size + 1]? = some (.cells (effC ((bestO lt L2).getD z29)) 29 (0, 0)) ∧ ((put4 V2 (w0.heap.size + 1) x).setCell ⟨w0.heap.size + 1 + 1, 0, none⟩ (.bool false)).heap[w0.heap.size + 1 + 1]? = some (.cells #[.bool (bestO lt L2).isNone] 4 (0, 0))) := by
   rintro V2 t2 b2 z2 q3 ⟨b, q4⟩ ⟨v, q5⟩ L2 hL2
   have hbb : Below w0.heap.size V2 ((put4 V2 (w0.heap.size + 1) x).setCell ⟨w0.heap.size + 1 + 1, 0, none⟩ (.bool false)) := (put4_below (by omega)).setCell (p := ⟨w0.heap.size + 1 + 1, 0, none⟩) (by simp; omega) _
   have hzz := hbb.size
   rw [hL2]
   refine ⟨(t2.trans (put4_turns hT1)).trans (Turns.setCell _ ⟨w0.heap.size + 1 + 1, 0, none⟩ _ hT2), b2.trans hbb, by omega, ?_, ?_, ?_⟩
   ·rw [Below.heap_setCell _ _ _ _ (by simp; omega), put4_far (by omega)]; exact q3
   ·rw [Below.heap_setCell _ _ _ _ (by simp)]; exact put4_blk x q4
   ·have q6 : (put4 V2 (w0.heap.size + 1) x).heap[w0.heap.size + 1 + 1]? = some (.cells #[.bool v] 4 (0, 0)) := by rw [put4_far (by omega)]; exact q5
    exact blk_set q6 0 (.bool false)
  cases ho : bestO lt pre with
  | none =>
   rw [ho] at g4 g5
   obtain ⟨⟨c0, c1, c2, c3⟩, f0, f1, f2, f3⟩ := cells4 g4
   have cb : V.cell? ⟨w0.heap.size + 1 + 1, 0, none⟩ = some (.bool true) := (blk_cell g5 0).trans rfl
   have fb := blk_frozen g5 0
   have hfin := fin V (Turns.refl _ _) g1 g2 g3 ⟨_, g4⟩ ⟨_, g5⟩ (pre ++ [x]) (by rw [hb, ho]; rfl)
   clear fin
   gi_wp2
   refine ⟨fun _ h => (by cases h), ?_⟩
   gi_wp2
   exact hfin
  | some b =>
   rw [ho] at g4 g5 hb
   obtain ⟨⟨c0, c1, c2, c3⟩, f0, f1, f2, f3⟩ := cells4 g4
   have cb : V.cell? ⟨w0.heap.size + 1 + 1, 0, none⟩ = some (.bool false) := (blk_cell g5 0).trans rfl
   have he := hless.1
   gi_wp2
   refine ⟨trivial, rfl, (CallsIn.inRound l' (callsIn_w (hless.2 b x V))).mono ?_⟩
   clear c0 c1 c2 c3 f0 f1 f2 f3 cb x0 x1 x2 x3 cl
   rintro e V2 ⟨rfl, hb2⟩
   have hz2 := hb2.size
   have g3' := keep_below hb2 (by omega) g3
   have g4' := keep_below hb2 (by omega) g4
   have g5' := keep_below hb2 (by omega) g5
   have hx' := keep_below hb2 (blk_lt hx) hx
   obtain ⟨⟨x0, x1, x2, x3⟩, _⟩ := cells4 hx'
   obtain ⟨⟨c0, c1, c2, c3⟩, f0, f1, f2, f3⟩ := cells4 g4'
   have cb : V2.cell? ⟨w0.heap.size + 1 + 1, 0, none⟩ = some (.bool false) := (blk_cell g5' 0).trans rfl
   have fb := blk_frozen g5' 0
   have b2 : Below w0.heap.size w0 V2 := g1.trans (hb2.mono g1.size)
   by_cases hlt : lt b x = true
   ·have hfin := fin V2 (Turns.of_below hb2) b2 (by omega) g3' ⟨_, g4'⟩ ⟨_, g5'⟩ (pre ++ [x]) (by rw [hb]; exact if_pos hlt)
    clear fin
    gi_wp2
    exact hfin
   ·have hb' : bestO lt (pre ++ [x]) = some b := by rw [hb]; exact if_neg hlt
    have hfin : Turns (Tor (fun _ => False) w0.heap.size w1.heap.size) V V2 ∧ (Below w0.heap.size w0 V2 ∧ w1.heap.size ≤ V2.heap.size ∧ V2.heap[w0.heap.size]? = some (.cells #[.func (.func lf) #[] #[]] 92 (0, 0)) ∧ V2.heap[w0.heap.size + 1]? = some (.cells (effC ((bestO lt (pre ++ [x])).getD z29)) 29 (0, 0)) ∧ V2.heap[w0.heap.size + 1 + 1]? = some (.cells #[.bool (bestO lt (pre ++ [x])).isNone] 4 (0, 0))) := by
     rw [hb']; exact ⟨Turns.of_below hb2, b2, by omega, g3', g4', g5'⟩
    clear fin
    gi_wp2
    exact hfin
 case done =>
  rintro D V hD ⟨g1, g2, g3, g4, g5⟩ hK
  obtain ⟨b, hbe⟩ : ∃ b, (bestO lt L).getD z29 = b := ⟨_, rfl⟩
  rw [hbe] at g4
  have hput : (put4 V (w0.heap.size + 1) b).heap[w0.heap.size + 1]? = some (.cells (effC b) 29 (0, 0)) := put4_blk b g4
  have hK2 : (put4 V (w0.heap.size + 1) b).heap[D]? = some (.deferred (some [])) := by rw [put4_far (by omega)]; exact hK
  have hb2 : Below w0.heap.size w0 (put4 V (w0.heap.size + 1) b) := g1.trans (put4_below (by omega))
  obtain ⟨⟨c0, c1, c2, c3⟩, f0, f1, f2, f3⟩ := cells4 g4
  gi_wp2
  refine ⟨by simp, .inl ⟨_, _, rfl, run_takeDeferred hK2, ?_⟩⟩
  refine ⟨_, results_single rfl (.cell (w0.heap.size + 1) 29 (effC b) (0, 0) _ rfl ((World.putObj_heap_other (by omega)).trans hput) Try.underlying29 rfl (by kernel_rfl) .nil), by rw [hbe], hb2.trans (below_putObj _ _ (by omega))⟩
 case stop =>
  rintro D pre V hD hpre g1 hK
  exact g1.elim
end Go.Proofs.Ytiklpefckadgdaa.P
noncomputable section
namespace Go.Proofs.Ytiklpefckadgdaa.P
open Go.RowKit Go.Proofs.YtiklpefckadgdaaW.PrintWords Go.Proofs.YtiklpefckadgdaaW.PrintLast Go.Proofs.YtiklpefckadgdaaW.PrintMore
attribute [local go_sem] max2_int min2_int max_two min_two max_three min_three max_four min_four   -- for this text's walks alone
set_option linter.unusedVariables false
set_option linter.unusedSimpArgs false
def bridge_start.l0 : Nat → Int → List Int → Int → Int → Option (Int)
 | 0, _, _, _, _ => none
 | k + 1, x4, x10, x11, x12 => if x12 < x11 then (if 0 ≤ x12 then (if x12 < (x10.length : Int) then (bridge_start.l0 k (wrap64 (x4 + (rd x10 x12))) x10 x11 (wrap64 (x12 + 1))) else (none)) else (none)) else (some x4)
def bridge_start.f (k : Nat) (l0_0 : List Int) (l0_1 : List Int) (l0_2 : List Int) (a0_3 : Int) (a0_4 : Int) (a0_5 : Int) (a1 : Int) : Option (Int) := if 0 ≤ a1 then (if a1 ≤ (l0_0.length : Int) then (bridge_start.l0 k 0 (l0_0.take (a1 : Int).toNat) ((l0_0.take (a1 : Int).toNat).length : Int) 0) else (none)) else (none)
theorem bridge_start.mono_l : ∀ k, (∀ y0 y1 y2 y3, LeO (bridge_start.l0 k y0 y1 y2 y3) (bridge_start.l0 (k + 1) y0 y1 y2 y3))
 | 0 => fun _ _ _ _ r h => by simp [bridge_start.l0] at h
 | k + 1 => by
  have ih0 := bridge_start.mono_l k
  ·intro y0 y1 y2 y3
   unfold bridge_start.l0
   repeat' first
   | (with_reducible exact ih0 _ _ _ _)
   | (with_reducible exact LeO.refl _)
   | (with_reducible exact LeO.none _)
   | (with_reducible refine LeO.ite ?_ ?_)
   | (with_reducible refine LeO.bind ?_ (fun _ => ?_))
   | exact ih0 _ _ _ _
   | exact LeO.none _
   | refine LeO.ite ?_ ?_
   | refine LeO.bind ?_ (fun _ => ?_)
theorem bridge_start.mono : ∀ a0 a1 a2 a3 a4 a5 a6 k, LeO (bridge_start.f k a0 a1 a2 a3 a4 a5 a6) (bridge_start.f (k + 1) a0 a1 a2 a3 a4 a5 a6) := by
 intro a0 a1 a2 a3 a4 a5 a6 k
 have ih0 := bridge_start.mono_l k
 unfold bridge_start.f
 repeat' first
   | (with_reducible exact ih0 _ _ _ _)
   | (with_reducible exact LeO.refl _)
   | (with_reducible exact LeO.none _)
   | (with_reducible refine LeO.ite ?_ ?_)
   | (with_reducible refine LeO.bind ?_ (fun _ => ?_))
   | exact ih0 _ _ _ _
   | exact LeO.none _
   | refine LeO.ite ?_ ?_
   | refine LeO.bind ?_ (fun _ => ?_)
set_option maxHeartbeats 8000000 in
set_option maxRecDepth 100000 in
theorem bridge_start.calls (k : Nat) (A0_0 : Option Addr) (c0_0 : Nat) (l0_0 : List Int) (A0_1 : Option Addr) (c0_1 : Nat) (l0_1 : List Int) (A0_2 : Option Addr) (c0_2 : Nat) (l0_2 : List Int) (a0_3 : Int) (a0_4 : Int) (a0_5 : Int) (a1 : Int) (r : Int) (w : World) (hr0_0 : Kd.C (Kd.int .i64) w A0_0 l0_0.length l0_0) (hc0_0 : l0_0.length ≤ c0_0) (hr0_1 : Kd.C (Kd.int .i64) w A0_1 l0_1.length l0_1) (hc0_1 : l0_1.length ≤ c0_1) (hr0_2 : Kd.C (Kd.int .i64) w A0_2 l0_2.length l0_2) (hc0_2 : l0_2.length ≤ c0_2) (h : bridge_start.f k l0_0 l0_1 l0_2 a0_3 a0_4 a0_5 a1 = some r) :
  Calls Try.prog 50 #[.agg #[.slice A0_0 l0_0.length c0_0, .slice A0_1 l0_1.length c0_1, .slice A0_2 l0_2.length c0_2, .int .i64 a0_3, .int .i64 a0_4, .int .i64 a0_5], .int .i64 a1] w fun e w' => e = .returned (.int .i64 r) ∧ Below w.heap.size w w' := by
 have hu24 := Try.underlying24
 have HR0_0 := Aside0.mk hr0_0
 have HC0_0 := Aside0.mk hc0_0
 clear hr0_0 hc0_0
 have HR0_1 := Aside0.mk hr0_1
 have HC0_1 := Aside0.mk hc0_1
 clear hr0_1 hc0_1
 have HR0_2 := Aside0.mk hr0_2
 have HC0_2 := Aside0.mk hc0_2
 clear hr0_2 hc0_2
 have HB := Aside0.mk (Below.refl w.heap.size w)
 have H : (if 0 ≤ a1 then (if a1 ≤ (l0_0.length : Int) then (bridge_start.l0 k 0 (l0_0.take (a1 : Int).toNat) ((l0_0.take (a1 : Int).toNat).length : Int) 0) else (none)) else (none)) = some r := h
 clear h
 by_cases c3 : 0 ≤ a1
 ·rw [if_pos c3] at H
  have c3b0 := eq_true c3
  have c3b1 : decide (0 ≤ a1) = true := decide_eq_true c3
  clear c3
  by_cases c4 : a1 ≤ (l0_0.length : Int)
  ·rw [if_pos c4] at H
   have c4b0 := eq_true c4
   have c4b1 : decide (a1 ≤ (l0_0.length : Int)) = true := decide_eq_true c4
   clear c4
   have H' := Aside0.mk H
   clear H
   go_enter Try.func50, Try.ntmps50
   go_wp2_with (first | ((with_reducible refine gate_dst (N := 2) rfl ?_); refine box_event ?hg (N := 2) ?hd (cs := #[.slice A0_0 l0_0.length c0_0, .slice A0_1 l0_1.length c0_1, .slice A0_2 l0_2.length c0_2, .int .i64 a0_3, .int .i64 a0_4, .int .i64 a0_5]) (t := 24) ?hr ?_; (case hd => rfl); (case hg => rfl); (case hr => first | (go_simp; done) | (go_simp; rfl)); intro gb101 hg w5 hbox hb; have n0_ := Aside0.mk (below_step (by repeat (first | (with_reducible first | exact HB.out | apply below_alloc | apply pw_below_drewN | apply below_drew1) | exact HB.out)) hb); have n1_ := Aside0.mk (hbox); have n2_ := Aside0.mk ((by rw [hg]; exact (below_size (by repeat (first | (with_reducible first | exact HB.out | apply below_alloc | apply pw_below_drewN | apply below_drew1) | exact HB.out))) : w.heap.size ≤ gb101)); have n3_ := Aside0.mk ((by rw [hg]; exact (below_size (by repeat (first | (with_reducible first | exact HB.out | apply below_alloc | apply pw_below_drewN | apply below_drew1) | exact HB.out))) : w.heap.size ≤ gb101)); clear HB; have HB := n0_; have BK101 := n1_; have GW101 := n2_; have GE101 := n3_; clear n0_ n1_ n2_ n3_; clear hb hbox hg; have hcz6_0 : w5.cell? ⟨gb101, 0, none⟩ = some (.slice A0_0 l0_0.length c0_0) := (blk_cell BK101.out 0).trans rfl; have hcz6_1 : w5.cell? ⟨gb101, 1, none⟩ = some (.slice A0_1 l0_1.length c0_1) := (blk_cell BK101.out 1).trans rfl; have hcz6_2 : w5.cell? ⟨gb101, 2, none⟩ = some (.slice A0_2 l0_2.length c0_2) := (blk_cell BK101.out 2).trans rfl; have hcz6_3 : w5.cell? ⟨gb101, 3, none⟩ = some (.int .i64 a0_3) := (blk_cell BK101.out 3).trans rfl; have hcz6_4 : w5.cell? ⟨gb101, 4, none⟩ = some (.int .i64 a0_4) := (blk_cell BK101.out 4).trans rfl; have hcz6_5 : w5.cell? ⟨gb101, 5, none⟩ = some (.int .i64 a0_5) := (blk_cell BK101.out 5).trans rfl; have hfz6_0 := blk_frozen BK101.out 0; have hfz6_1 := blk_frozen BK101.out 1; have hfz6_2 := blk_frozen BK101.out 2; have hfz6_3 := blk_frozen BK101.out 3; have hfz6_4 := blk_frozen BK101.out 4; have hfz6_5 := blk_frozen BK101.out 5; obtain ⟨i07, hi07, _, hsz7, _⟩ := info_parts info2; obtain ⟨hcut7, hA7, hC7⟩ := print_take_of (P := Try.prog) (Value.int .i64) 0 22 2 .i64 Try.underlying22 hi07 hsz7 A0_0 c0_0 l0_0 a1 (of_decide_eq_true (by first | (with_reducible assumption) | assumption)) (of_decide_eq_true (by first | (with_reducible assumption) | assumption)) HC0_0.out; have HR102 := Aside0.mk (Kd.C_of_reads (h1 := fun _ => rfl) (hA7 _ (Kd.reads_of_C HR0_0.out))); have HC102 := Aside0.mk hC7; clear hA7 hC7 hi07 hsz7; generalize hL2 : l0_0.take (a1 : Int).toNat = L2 at *))
   go_loopg [4, 12] k (fun kq v4 v12 w' => ∃ (x4_1 : Int) (x12_1 : Int), v4 = .int .i64 x4_1 ∧ v12 = .int .i64 x12_1 ∧ Aside0 (bridge_start.l0 kq x4_1 L2 (L2.length : Int) x12_1 = some r) ∧ Aside0 (kq ≤ k) ∧ Aside0 (w'.heap[gb101]? = some (.cells #[(.slice A0_0 l0_0.length c0_0), (.slice A0_1 l0_1.length c0_1), (.slice A0_2 l0_2.length c0_2), .int .i64 a0_3, .int .i64 a0_4, .int .i64 a0_5] 24 (0, 0))) ∧ Aside0 (Below w.heap.size w w'))
   case atStart => exact ⟨(0), (0), (by first | rfl | (simp; done) | (simp [*]; done)), (by first | rfl | (simp; done) | (simp [*]; done)), H', ⟨Nat.le_refl _⟩, ⟨by (with_reducible repeat (first | refine blk_drewN ?_ _ | refine blk_drew ?_ | refine blk_alloc ?_ _)); exact BK101.out⟩, ⟨by repeat (first | (with_reducible first | exact HB.out | apply below_alloc | apply pw_below_drewN | apply below_drew1 | refine below_set ?_ GE101.out) | exact HB.out)⟩⟩
   case round =>
    clear H'
    try clear p2
    try clear c3
    try clear c3b0
    try clear c3b1
    try clear c4
    try clear c4b0
    try clear c4b1
    try clear c5
    try clear hcz6_0
    try clear hcz6_1
    try clear hcz6_2
    try clear hcz6_3
    try clear hcz6_4
    try clear hcz6_5
    try clear hfz6_0
    try clear hfz6_1
    try clear hfz6_2
    try clear hfz6_3
    try clear hfz6_4
    try clear hfz6_5
    obtain ⟨x4_1, x12_1, rfl, rfl, HA, HK1, BK101, HB⟩ := hrel
    cases gk with
    | zero => exact absurd HA.out (by simp [bridge_start.l0])
    | succ k1 =>
     have H := HA.out
     clear HA
     simp only [bridge_start.l0] at H
     by_cases c8 : x12_1 < (L2.length : Int)
     ·rw [if_pos c8] at H
      have c8b0 : decide (x12_1 < (L2.length : Int)) = true := decide_eq_true c8
      clear c8
      by_cases c9 : 0 ≤ x12_1
      ·rw [if_pos c9] at H
       have c9b0 : decide (0 ≤ x12_1) = true := decide_eq_true c9
       clear c9
       by_cases c10 : x12_1 < (L2.length : Int)
       ·rw [if_pos c10] at H
        have c10b0 : decide (x12_1 < (L2.length : Int)) = true := decide_eq_true c10
        clear c10
        have H' := Aside0.mk H
        clear H
        have p103 : 0 ≤ (x12_1 : Int) := of_decide_eq_true (by first | (with_reducible assumption) | assumption)
        have q103 : x12_1 < (L2.length : Int) := of_decide_eq_true (by first | (with_reducible assumption) | assumption)
        obtain ⟨ad103, e103, hx103_0⟩ := Kd.at_int HR102.out x12_1 p103 q103
        cases e103
        replace hx103_0 := (HB.out.cell (World.block_lt_of_cell? w _ hx103_0)).trans hx103_0
        replace p103 := eq_true p103
        replace q103 := eq_true q103
        go_wp2
        go_roundg k1
        case measure => have := HK1.out; omega
        case rel => exact ⟨(wrap64 (x4_1 + (rd L2 x12_1))), (wrap64 (x12_1 + 1)), (by first | rfl | (simp; done) | (simp [*]; done)), (by first | rfl | (simp; done) | (simp [*]; done)), H', ⟨by have := HK1.out; omega⟩, ⟨by (with_reducible repeat (first | refine blk_drewN ?_ _ | refine blk_drew ?_ | refine blk_alloc ?_ _)); exact BK101.out⟩, ⟨by repeat (first | (with_reducible first | exact HB.out | apply below_alloc | apply pw_below_drewN | apply below_drew1 | refine below_set ?_ GE101.out) | exact HB.out)⟩⟩
       ·rw [if_neg c10] at H
        exact absurd H (by simp)
      ·rw [if_neg c9] at H
       exact absurd H (by simp)
     ·rw [if_neg c8] at H
      have c8b0 : decide (x12_1 < (L2.length : Int)) = false := decide_eq_false c8
      clear c8
      obtain rfl := Option.some.inj H
      go_wp2
      go_ret
      exact ⟨by first | rfl | (simp [errW_none, errW_some] <;> rfl) | (simp [*, errW_none, errW_some] <;> rfl), by repeat (first | (with_reducible first | exact HB.out | apply below_alloc | apply pw_below_drewN | apply below_drew1 | refine below_set ?_ GE101.out) | exact HB.out)⟩
  ·rw [if_neg c4] at H
   exact absurd H (by simp)
 ·rw [if_neg c3] at H
  exact absurd H (by simp)
end Go.Proofs.Ytiklpefckadgdaa.P
namespace Go.Proofs.Ytiklpefckadgdaa.P
open Go.RowKit Go.Shelf Go.Proofs.Ytiklpefckadgdaa.O Go.Proofs.YtiklpefckadgdaaW.PrintWords Go.Proofs.YtiklpefckadgdaaW.PrintLast Go.Proofs.YtiklpefckadgdaaW.PrintMore
def momentW (s l x : Int) (a : Int) : Int :=
 if wrap64 (a - s) < 0 ∨ l < wrap64 (a - s) then 0 else if wrap64 (a - s) ≤ x then wrap64 (wrap64 (a - s) * wrap64 (l - x)) else wrap64 (x * wrap64 (l - wrap64 (a - s)))
def endW (s l : Int) (right : Bool) (a : Int) : Int :=
 if wrap64 (a - s) < 0 ∨ l < wrap64 (a - s) then 0 else if right = true then wrap64 (a - s) else wrap64 (l - wrap64 (a - s))
set_option maxRecDepth 100000 in
set_option maxHeartbeats 4000000 in
theorem moment_fn (B1 B2 B3 : Nat) (s l x : Int) (w : World) (h1 : w.heap[B1]? = some (.cells #[.int .i64 s] 2 (0, 0))) (h2 : w.heap[B2]? = some (.cells #[.int .i64 l] 2 (0, 0))) (h3 : w.heap[B3]? = some (.cells #[.int .i64 x] 2 (0, 0))) :
  LineFn 72 #[.pointer (some ⟨B1, 0, none⟩), .pointer (some ⟨B2, 0, none⟩), .pointer (some ⟨B3, 0, none⟩)] (momentW s l x) w := by
 refine ⟨enters_of Try.func72 (by kernel_rfl) rfl, fun a W hW => ?_⟩
 have c1 : W.cell? ⟨B1, 0, none⟩ = some (.int .i64 s) := (blk_cell (keep_below hW (blk_lt h1) h1) 0).trans rfl
 have c2 : W.cell? ⟨B2, 0, none⟩ = some (.int .i64 l) := (blk_cell (keep_below hW (blk_lt h2) h2) 0).trans rfl
 have c3 : W.cell? ⟨B3, 0, none⟩ = some (.int .i64 x) := (blk_cell (keep_below hW (blk_lt h3) h3) 0).trans rfl
 show Calls Try.prog 72 #[.int .i64 a, .pointer (some ⟨B1, 0, none⟩), .pointer (some ⟨B2, 0, none⟩), .pointer (some ⟨B3, 0, none⟩)] W _
 refine calls_of_wp Try.func72 rfl ?_
 simp only [Try.ntmps72, List.size_toArray, List.length_cons, List.length_nil, Nat.reduceAdd, Nat.reduceSub, Array.replicate_succ, Array.replicate_zero, List.push_toArray, List.append_toArray, List.nil_append, List.cons_append]
 unfold momentW
 by_cases g1 : wrap64 (a - s) < 0
 ·rw [if_pos (.inl g1)]
  go_wp2
  go_ret
  exact ⟨rfl, Below.refl _ _⟩
 ·by_cases g2 : l < wrap64 (a - s)
  ·rw [if_pos (.inr g2)]
   go_wp2
   go_ret
   exact ⟨rfl, Below.refl _ _⟩
  ·rw [if_neg (fun h => h.elim g1 g2)]
   by_cases g3 : wrap64 (a - s) ≤ x
   ·rw [if_pos g3]
    go_wp2
    go_ret
    exact ⟨rfl, Below.refl _ _⟩
   ·rw [if_neg g3]
    go_wp2
    go_ret
    exact ⟨rfl, Below.refl _ _⟩
set_option maxRecDepth 100000 in
set_option maxHeartbeats 4000000 in
theorem end_fn (B1 B2 B3 : Nat) (s l : Int) (right : Bool) (w : World) (h1 : w.heap[B1]? = some (.cells #[.int .i64 s] 2 (0, 0))) (h2 : w.heap[B2]? = some (.cells #[.int .i64 l] 2 (0, 0))) (h3 : w.heap[B3]? = some (.cells #[.bool right] 4 (0, 0))) :
  LineFn 78 #[.pointer (some ⟨B1, 0, none⟩), .pointer (some ⟨B2, 0, none⟩), .pointer (some ⟨B3, 0, none⟩)] (endW s l right) w := by
 refine ⟨enters_of Try.func78 (by kernel_rfl) rfl, fun a W hW => ?_⟩
 have c1 : W.cell? ⟨B1, 0, none⟩ = some (.int .i64 s) := (blk_cell (keep_below hW (blk_lt h1) h1) 0).trans rfl
 have c2 : W.cell? ⟨B2, 0, none⟩ = some (.int .i64 l) := (blk_cell (keep_below hW (blk_lt h2) h2) 0).trans rfl
 have c3 : W.cell? ⟨B3, 0, none⟩ = some (.bool right) := (blk_cell (keep_below hW (blk_lt h3) h3) 0).trans rfl
 show Calls Try.prog 78 #[.int .i64 a, .pointer (some ⟨B1, 0, none⟩), .pointer (some ⟨B2, 0, none⟩), .pointer (some ⟨B3, 0, none⟩)] W _
 refine calls_of_wp Try.func78 rfl ?_
 simp only [Try.ntmps78, List.size_toArray, List.length_cons, List.length_nil, Nat.reduceAdd, Nat.reduceSub, Array.replicate_succ, Array.replicate_zero, List.push_toArray, List.append_toArray, List.nil_append, List.cons_append]
 unfold endW
 by_cases g1 : wrap64 (a - s) < 0
 ·rw [if_pos (.inl g1)]
  go_wp2
  go_ret
  exact ⟨rfl, Below.refl _ _⟩
 ·by_cases g2 : l < wrap64 (a - s)
  ·rw [if_pos (.inr g2)]
   go_wp2
   go_ret
   exact ⟨rfl, Below.refl _ _⟩
  ·rw [if_neg (fun h => h.elim g1 g2)]
   cases right
   ·rw [if_neg (by decide)]
    go_wp2
    go_ret
    exact ⟨rfl, Below.refl _ _⟩
   ·rw [if_pos rfl]
    go_wp2
    go_ret
    exact ⟨rfl, Below.refl _ _⟩
def startW (spans : List Int) (k : Nat) : Int := sumW (spans.take k)
theorem start_loop (L : List Int) (hl : L.length ≤ 1000000) (d : Nat) : ∀ (i : Nat) (n : Int), L.length - i = d → i ≤ L.length → Ev (fun k => bridge_start.l0 k n L (L.length : Int) (i : Int)) ((L.drop i).foldl (fun n x => wrap64 (n + x)) n) := by
 induction d with
 | zero =>
  intro i n hd hi
  have he : i = L.length := by omega
  subst he
  refine Ev.step (f := fun _ => some n) (fun k => ?_) (by simpa using Ev.now n)
  simp only [bridge_start.l0]
  rw [if_neg (by omega)]
 | succ d ih =>
  intro i n hd hi
  have hlt : i < L.length := by omega
  rw [List.drop_eq_getElem_cons hlt, List.foldl_cons]
  refine Ev.step (fun k => ?_) (ih (i + 1) _ (by omega) (by omega))
  simp only [bridge_start.l0]
  rw [if_pos (by omega), if_pos (by omega), if_pos (by omega), rd_get L i hlt]
  congr 1
  unfold wrap64; omega
theorem start_ev (l0 l1 l2 : List Int) (a b c : Int) (k : Nat) (hk : k ≤ l0.length) (hl : l0.length ≤ 1000000) : ∃ n, bridge_start.f n l0 l1 l2 a b c (k : Int) = some (startW l0 k) := by
 have := Ev.rounds (start_loop (l0.take k) (by simp; omega) (l0.take k).length 0 0 (by omega) (by omega))
 obtain ⟨n, hn⟩ := this
 refine ⟨n, ?_⟩
 unfold bridge_start.f startW sumW
 rw [if_pos (by omega), if_pos (by omega), Int.toNat_natCast]
 simpa using hn
theorem run_store_func_ (P : Program) (w : World) (a : Addr) (m : Mode) (f : Fn) (x y : Array Value) : (store a (.func f x y) m).run P w = stored P w a (.func f x y) m := run_store P w a _ m rfl
attribute [local go_sem] run_store_func_
def MakeInv (tm : Array Bool → Nat → Nat → Array Value) (w2 : World) (f l : Int) (listed : Array Bool) (a : Act) (V : World) : Prop :=
 ∃ B1 B2, a = { tmps := tm listed B1 B2, defers := [] } ∧ Below w2.heap.size w2 V ∧
   (listed.getD 8 false = true → w2.heap.size ≤ B1 ∧ V.heap[B1]? = some (.cells #[.int .i64 (if listed.getD 10 false = true then f else 0)] 2 (0, 0))) ∧
   (listed.getD 9 false = true → w2.heap.size ≤ B2 ∧ V.heap[B2]? = some (.cells #[.int .i64 (if listed.getD 11 false = true then l else 0)] 2 (0, 0))) ∧
   (listed.getD 8 false = true → listed.getD 9 false = true → B1 ≠ B2)
set_option maxRecDepth 100000 in
set_option maxHeartbeats 4000000 in
theorem moment_calls (A0 A1 A2 : Option Addr) (c0 c1 c2 : Nat) (l0 l1 l2 : List Int) (a3 a4 a5 : Int) (k : Nat) (x : Int) (w : World) (hk : k < l0.length) (hlen : l0.length ≤ 1000000)
  (hr0 : Kd.C (Kd.int .i64) w A0 l0.length l0) (hc0 : l0.length ≤ c0) (hr1 : Kd.C (Kd.int .i64) w A1 l1.length l1) (hc1 : l1.length ≤ c1) (hr2 : Kd.C (Kd.int .i64) w A2 l2.length l2) (hc2 : l2.length ≤ c2) :
  Calls Try.prog 45 #[.agg #[.slice A0 l0.length c0, .slice A1 l1.length c1, .slice A2 l2.length c2, .int .i64 a3, .int .i64 a4, .int .i64 a5], .int .i64 (k : Int), .int .i64 x] w fun e w' =>
   ∃ lb A c, e = .returned (.agg #[.func (.func 72) #[] lb, .slice A 3 c]) ∧ LineFn 72 lb (momentW (startW l0 k) l0[k] x) w' ∧
    Kd.C (Kd.int .i64) w' A 3 [startW l0 k, wrap64 (startW l0 k + x), wrap64 (startW l0 k + l0[k])] ∧ Below w.heap.size w w' := by
 have hu24 := Try.underlying24
 have hu69 := Try.underlying69
 obtain ⟨n, hn⟩ := start_ev l0 l1 l2 a3 a4 a5 k (by omega) hlen
 obtain ⟨ad, rfl, hx0⟩ := Kd.at_int hr0 (k : Int) (by omega) (by omega)
 rw [rd_get l0 k hk, Int.toNat_natCast] at hx0
 refine (callsIn_wide (n := 0)).1 (callsIn_of_wp Try.func45 rfl trivial ?_ rfl)
 simp only [Try.ntmps45, List.size_toArray, List.length_cons, List.length_nil, Nat.reduceAdd, Nat.reduceSub, Array.replicate_succ, Array.replicate_zero, List.push_toArray, List.append_toArray, List.nil_append, List.cons_append]
 obtain ⟨w2, hw2⟩ : ∃ w2, ((w.alloc (.cells #[.slice (some ad) l0.length c0, .slice A1 l1.length c1, .slice A2 l2.length c2, .int .i64 a3, .int .i64 a4, .int .i64 a5] 24 (0, 0))).alloc (.cells #[.int .i64 x] 2 (0, 0))).alloc (.cells #[.nilFunc, .slice none 0 0] 69 (0, 0)) = w2 := ⟨_, rfl⟩
 have hb2 : Below w.heap.size w w2 := by rw [← hw2]; exact (((Below.refl _ _).alloc (Nat.le_refl _) _).alloc (by simp) _).alloc (by simp; omega) _
 have hz2 : w2.heap.size = w.heap.size + 3 := by rw [← hw2]; simp
 have hbx : w2.heap[w.heap.size]? = some (.cells #[.slice (some ad) l0.length c0, .slice A1 l1.length c1, .slice A2 l2.length c2, .int .i64 a3, .int .i64 a4, .int .i64 a5] 24 (0, 0)) := by rw [← hw2]; exact blk_alloc (blk_alloc (blk_new _ _) _) _
 have hxx : w2.heap[w.heap.size + 1]? = some (.cells #[.int .i64 x] 2 (0, 0)) := by
  rw [← hw2]; have := blk_alloc (blk_new (w.alloc (.cells #[.slice (some ad) l0.length c0, .slice A1 l1.length c1, .slice A2 l2.length c2, .int .i64 a3, .int .i64 a4, .int .i64 a5] 24 (0, 0))) (.cells #[.int .i64 x] 2 (0, 0))) (.cells #[.nilFunc, .slice none 0 0] 69 (0, 0)); rwa [World.size_alloc] at this
 have hout : w2.heap[w.heap.size + 1 + 1]? = some (.cells #[.nilFunc, .slice none 0 0] 69 (0, 0)) := by
  rw [← hw2]; have := blk_new ((w.alloc (.cells #[.slice (some ad) l0.length c0, .slice A1 l1.length c1, .slice A2 l2.length c2, .int .i64 a3, .int .i64 a4, .int .i64 a5] 24 (0, 0))).alloc (.cells #[.int .i64 x] 2 (0, 0))) (.cells #[.nilFunc, .slice none 0 0] 69 (0, 0)); rwa [World.size_alloc, World.size_alloc] at this
 gi_wp2
 refine wpIn_region_any (by kernel_rfl) ?_
 change wpAnyIn _ _ _ _ _ _ _ _ _ (World.drew w2)
 refine wpAnyIn_inv (MakeInv (fun listed B1 B2 => #[.agg #[.slice (some ad) l0.length c0, .slice A1 l1.length c1, .slice A2 l2.length c2, .int .i64 a3, .int .i64 a4, .int .i64 a5], .int .i64 (k : Int), .int .i64 x, .pointer (some ⟨w.heap.size, 0, none⟩), undef, .pointer (some ⟨w.heap.size + 1, 0, none⟩), .pointer (some ⟨w.heap.size + 1 + 1, 0, none⟩), sel listed 8 (.pointer (some ⟨B1, 0, none⟩)), sel listed 9 (.pointer (some ⟨B2, 0, none⟩)), sel listed 0 (.agg #[.slice (some ad) l0.length c0, .slice A1 l1.length c1, .slice A2 l2.length c2, .int .i64 a3, .int .i64 a4, .int .i64 a5]), sel listed 1 (.int .i64 (k : Int)), sel listed 2 (.int .i64 (startW l0 k)), sel listed 3 (.pointer (some ⟨w.heap.size, 0, none⟩)), sel listed 4 (.slice (some ad) l0.length c0), sel listed 5 (.int .i64 (k : Int)), sel listed 6 (.pointer (some (ad.add k))), sel listed 7 (.int .i64 l0[k]), undef, undef, undef, undef, undef, undef, undef, undef, undef, undef]) w2 (startW l0 k) l0[k])
  12 ?step ?stop ?fin 12 _ _ _ (by simp) (closed_none _) ⟨0, 0, by simp [sel], (Below.refl _ _).drew, by simp, by simp, by simp⟩ (by simp)
 case stop =>
  intro listed a V fuel hs hc hi hr
  have := (ready_lt hr).1
  simp at hs
  omega
 case step =>
  rintro listed a V i hs hc ⟨B1, B2, rfl, k1, k2, k3, k4⟩ hr hne K hK
  obtain ⟨hlt, hl0⟩ := ready_lt hr
  have hbV := keep_below k1 (blk_lt hbx) hbx
  have hVs := k1.size
  have hi : i = 0 ∨ i = 1 ∨ i = 2 ∨ i = 3 ∨ i = 4 ∨ i = 5 ∨ i = 6 ∨ i = 7 ∨ i = 8 ∨ i = 9 ∨ i = 10 ∨ i = 11 := by simp at hs; omega
  rcases hi with rfl | rfl | rfl | rfl | rfl | rfl | rfl | rfl | rfl | rfl | rfl | rfl
  ·refine wpOpIn_of rfl rfl ?_
   have e0 : V.cell? ⟨w.heap.size, 0, none⟩ = some (.slice (some ad) l0.length c0) := (blk_cell hbV 0).trans rfl
   have e1 : V.cell? ⟨w.heap.size, 1, none⟩ = some (.slice A1 l1.length c1) := (blk_cell hbV 1).trans rfl
   have e2 : V.cell? ⟨w.heap.size, 2, none⟩ = some (.slice A2 l2.length c2) := (blk_cell hbV 2).trans rfl
   have e3 : V.cell? ⟨w.heap.size, 3, none⟩ = some (.int .i64 a3) := (blk_cell hbV 3).trans rfl
   have e4 : V.cell? ⟨w.heap.size, 4, none⟩ = some (.int .i64 a4) := (blk_cell hbV 4).trans rfl
   have e5 : V.cell? ⟨w.heap.size, 5, none⟩ = some (.int .i64 a5) := (blk_cell hbV 5).trans rfl
   clear hr
   gi_wp2
   refine ⟨B1, B2, ?_, k1, by simp (disch := decide) only [getD_same hlt, getD_other hlt]; exact k2, by simp (disch := decide) only [getD_same hlt, getD_other hlt]; exact k3, by simp (disch := decide) only [getD_same hlt, getD_other hlt]; exact k4⟩
   simp (disch := decide) only [sel_same hlt, sel_other hlt]
  ·refine wpOpIn_of rfl rfl ?_
   clear hr
   gi_wp2
   refine ⟨B1, B2, ?_, k1, by simp (disch := decide) only [getD_same hlt, getD_other hlt]; exact k2, by simp (disch := decide) only [getD_same hlt, getD_other hlt]; exact k3, by simp (disch := decide) only [getD_same hlt, getD_other hlt]; exact k4⟩
   simp (disch := decide) only [sel_same hlt, sel_other hlt]
  ·refine wpOpIn_of rfl rfl ?_
   have d0 : listed.getD 0 false = true := ready_after hr rfl { on := 0, ground := .data } (by simp) rfl
   have d1 : listed.getD 1 false = true := ready_after hr rfl { on := 1, ground := .data } (by simp) rfl
   simp only [sel_on d0, sel_on d1]
   clear hr
   gi_wp2
   refine ⟨trivial, rfl, (callsIn_w (bridge_start.calls n (some ad) c0 l0 A1 c1 l1 A2 c2 l2 a3 a4 a5 (k : Int) _ V (Kd.C_below hr0 (hb2.trans (k1.mono hb2.size))) hc0 (Kd.C_below hr1 (hb2.trans (k1.mono hb2.size))) hc1 (Kd.C_below hr2 (hb2.trans (k1.mono hb2.size))) hc2 hn)).mono ?_⟩
   rintro e V5 ⟨rfl, hb5⟩
   gi_wp2
   refine ⟨B1, B2, ?_, k1.trans (hb5.mono hVs), ?_, ?_, ?_⟩
   ·simp (disch := decide) only [sel_same hlt, sel_other hlt, sel_on d0, sel_on d1]
   ·simp (disch := decide) only [getD_same hlt, getD_other hlt]; exact fun h => ⟨(k2 h).1, keep_below hb5 (blk_lt (k2 h).2) (k2 h).2⟩
   ·simp (disch := decide) only [getD_same hlt, getD_other hlt]; exact fun h => ⟨(k3 h).1, keep_below hb5 (blk_lt (k3 h).2) (k3 h).2⟩
   ·simp (disch := decide) only [getD_same hlt, getD_other hlt]; exact k4
  ·refine wpOpIn_of rfl rfl ?_
   clear hr
   gi_wp2
   refine ⟨B1, B2, ?_, k1, by simp (disch := decide) only [getD_same hlt, getD_other hlt]; exact k2, by simp (disch := decide) only [getD_same hlt, getD_other hlt]; exact k3, by simp (disch := decide) only [getD_same hlt, getD_other hlt]; exact k4⟩
   simp (disch := decide) only [sel_same hlt, sel_other hlt]
  ·refine wpOpIn_of rfl rfl ?_
   have d3 : listed.getD 3 false = true := ready_after hr rfl { on := 3, ground := .data } (by simp) rfl
   have e0 : V.cell? ⟨w.heap.size, 0, none⟩ = some (.slice (some ad) l0.length c0) := (blk_cell hbV 0).trans rfl
   simp only [sel_on d3]
   clear hr
   gi_wp2
   refine ⟨B1, B2, ?_, k1, by simp (disch := decide) only [getD_same hlt, getD_other hlt]; exact k2, by simp (disch := decide) only [getD_same hlt, getD_other hlt]; exact k3, by simp (disch := decide) only [getD_same hlt, getD_other hlt]; exact k4⟩
   simp (disch := decide) only [sel_same hlt, sel_other hlt, sel_on d3]
  ·refine wpOpIn_of rfl rfl ?_
   clear hr
   gi_wp2
   refine ⟨B1, B2, ?_, k1, by simp (disch := decide) only [getD_same hlt, getD_other hlt]; exact k2, by simp (disch := decide) only [getD_same hlt, getD_other hlt]; exact k3, by simp (disch := decide) only [getD_same hlt, getD_other hlt]; exact k4⟩
   simp (disch := decide) only [sel_same hlt, sel_other hlt]
  ·refine wpOpIn_of rfl rfl ?_
   have d4 : listed.getD 4 false = true := ready_after hr rfl { on := 4, ground := .data } (by simp) rfl
   have d5 : listed.getD 5 false = true := ready_after hr rfl { on := 5, ground := .data } (by simp) rfl
   simp only [sel_on d4, sel_on d5]
   clear hr
   gi_wp2
   refine ⟨B1, B2, ?_, k1, by simp (disch := decide) only [getD_same hlt, getD_other hlt]; exact k2, by simp (disch := decide) only [getD_same hlt, getD_other hlt]; exact k3, by simp (disch := decide) only [getD_same hlt, getD_other hlt]; exact k4⟩
   simp (disch := decide) only [sel_same hlt, sel_other hlt, sel_on d4, sel_on d5]
  ·refine wpOpIn_of rfl rfl ?_
   have d6 : listed.getD 6 false = true := ready_after hr rfl { on := 6, ground := .data } (by simp) rfl
   have e0 := ((hb2.trans (k1.mono hb2.size)).cell (World.block_lt_of_cell? w _ hx0)).trans hx0
   simp only [sel_on d6]
   clear hr
   gi_wp2
   refine ⟨B1, B2, ?_, k1, by simp (disch := decide) only [getD_same hlt, getD_other hlt]; exact k2, by simp (disch := decide) only [getD_same hlt, getD_other hlt]; exact k3, by simp (disch := decide) only [getD_same hlt, getD_other hlt]; exact k4⟩
   simp (disch := decide) only [sel_same hlt, sel_other hlt, sel_on d6]
  ·refine wpOpIn_of rfl rfl ?_
   clear hr
   gi_wp2
   refine ⟨V.heap.size, B2, ?_, k1.alloc hVs _, ?_, ?_, ?_⟩
   ·simp (disch := decide) only [sel_same hlt, sel_other hlt]
   ·simp (disch := decide) only [getD_same hlt, getD_other hlt]
    intro _
    have d10 : ¬ listed.getD 10 false = true := fun h => by
     have := hc 10 _ rfl h { on := 8, ground := .data } (by simp) rfl
     rw [hl0] at this; cases this
    rw [if_neg d10]
    exact ⟨hVs, blk_new _ _⟩
   ·simp (disch := decide) only [getD_same hlt, getD_other hlt]; exact fun h => ⟨(k3 h).1, blk_alloc (k3 h).2 _⟩
   ·simp (disch := decide) only [getD_same hlt, getD_other hlt]
    intro _ h e
    have := blk_lt (k3 h).2
    omega
  ·refine wpOpIn_of rfl rfl ?_
   clear hr
   gi_wp2
   refine ⟨B1, V.heap.size, ?_, k1.alloc hVs _, ?_, ?_, ?_⟩
   ·simp (disch := decide) only [sel_same hlt, sel_other hlt]
   ·simp (disch := decide) only [getD_same hlt, getD_other hlt]; exact fun h => ⟨(k2 h).1, blk_alloc (k2 h).2 _⟩
   ·simp (disch := decide) only [getD_same hlt, getD_other hlt]
    intro _
    have d11 : ¬ listed.getD 11 false = true := fun h => by
     have := hc 11 _ rfl h { on := 9, ground := .data } (by simp) rfl
     rw [hl0] at this; cases this
    rw [if_neg d11]
    exact ⟨hVs, blk_new _ _⟩
   ·simp (disch := decide) only [getD_same hlt, getD_other hlt]
    intro h _ e
    have := blk_lt (k2 h).2
    omega
  ·refine wpOpIn_of rfl rfl ?_
   have d8 : listed.getD 8 false = true := ready_after hr rfl { on := 8, ground := .data } (by simp) rfl
   have d2 : listed.getD 2 false = true := ready_after hr rfl { on := 2, ground := .data } (by simp) rfl
   obtain ⟨q1, q2⟩ := k2 d8
   rw [if_neg (by rw [hl0]; decide)] at q2
   have e0 : V.cell? ⟨B1, 0, none⟩ = some (.int .i64 0) := (blk_cell q2 0).trans rfl
   have f0 := blk_frozen q2 0
   simp only [sel_on d8, sel_on d2]
   clear hr
   gi_wp2
   refine ⟨B1, B2, ?_, k1.setCell (p := ⟨B1, 0, none⟩) q1 _, ?_, ?_, ?_⟩
   ·simp (disch := decide) only [sel_other hlt, sel_on d8, sel_on d2]
   ·simp (disch := decide) only [getD_same hlt, getD_other hlt]
    rw [if_pos trivial]
    exact fun _ => ⟨q1, blk_set q2 0 _⟩
   ·simp (disch := decide) only [getD_same hlt, getD_other hlt]; exact fun h => ⟨(k3 h).1, blk_far (k3 h).2 (fun e => k4 d8 h e.symm) _⟩
   ·simp (disch := decide) only [getD_same hlt, getD_other hlt]; exact k4
  ·refine wpOpIn_of rfl rfl ?_
   have d9 : listed.getD 9 false = true := ready_after hr rfl { on := 9, ground := .data } (by simp) rfl
   have d7 : listed.getD 7 false = true := ready_after hr rfl { on := 7, ground := .data } (by simp) rfl
   obtain ⟨q1, q2⟩ := k3 d9
   rw [if_neg (by rw [hl0]; decide)] at q2
   have e0 : V.cell? ⟨B2, 0, none⟩ = some (.int .i64 0) := (blk_cell q2 0).trans rfl
   have f0 := blk_frozen q2 0
   simp only [sel_on d9, sel_on d7]
   clear hr
   gi_wp2
   refine ⟨B1, B2, ?_, k1.setCell (p := ⟨B2, 0, none⟩) q1 _, ?_, ?_, ?_⟩
   ·simp (disch := decide) only [sel_other hlt, sel_on d9, sel_on d7]
   ·simp (disch := decide) only [getD_same hlt, getD_other hlt]; exact fun h => ⟨(k2 h).1, blk_far (k2 h).2 (k4 h d9) _⟩
   ·simp (disch := decide) only [getD_same hlt, getD_other hlt]
    rw [if_pos trivial]
    exact fun _ => ⟨q1, blk_set q2 0 _⟩
   ·simp (disch := decide) only [getD_same hlt, getD_other hlt]; exact k4
 case fin =>
  rintro listed a V hs ⟨B1, B2, rfl, k1, k2, k3, k4⟩ hr
  have all : ∀ j, j < 12 → listed.getD j false = true := fun j hj => by
   cases h : listed.getD j false
   ·exact absurd hr (ready_ne hs (by kernel_rfl) j (by simpa using hj) h)
   ·rfl
  have d0 := all 0 (by decide)
  have d1 := all 1 (by decide)
  have d2 := all 2 (by decide)
  have d3 := all 3 (by decide)
  have d4 := all 4 (by decide)
  have d5 := all 5 (by decide)
  have d6 := all 6 (by decide)
  have d7 := all 7 (by decide)
  have d8 := all 8 (by decide)
  have d9 := all 9 (by decide)
  simp only [sel_on d0, sel_on d1, sel_on d2, sel_on d3, sel_on d4, sel_on d5, sel_on d6, sel_on d7, sel_on d8, sel_on d9]
  obtain ⟨q1, q2⟩ := k2 d8
  obtain ⟨r1, r2⟩ := k3 d9
  rw [if_pos (all 10 (by decide))] at q2
  rw [if_pos (all 11 (by decide))] at r2
  have c1' : V.cell? ⟨B1, 0, none⟩ = some (.int .i64 (startW l0 k)) := (blk_cell q2 0).trans rfl
  have c2' : V.cell? ⟨B2, 0, none⟩ = some (.int .i64 l0[k]) := (blk_cell r2 0).trans rfl
  have hxV := keep_below k1 (blk_lt hxx) hxx
  have hoV := keep_below k1 (blk_lt hout) hout
  have c3' : V.cell? ⟨w.heap.size + 1, 0, none⟩ = some (.int .i64 x) := (blk_cell hxV 0).trans rfl
  clear hr all d0 d1 d2 d3 d4 d5 d6 d7 d8 d9 k2 k3 k4
  obtain ⟨V', hV'⟩ : ∃ V', V.alloc (.cells #[.int .i64 (startW l0 k), .int .i64 (wrap64 (startW l0 k + x)), .int .i64 (wrap64 (startW l0 k + l0[k]))] 2 (0, 0)) = V' := ⟨_, rfl⟩
  have hbV' : Below V.heap.size V V' := by rw [← hV']; exact (Below.refl _ _).alloc (Nat.le_refl _) _
  have hk' : V'.heap[V.heap.size]? = some (.cells (rowOf [startW l0 k, wrap64 (startW l0 k + x), wrap64 (startW l0 k + l0[k])]) 2 (0, 0)) := by rw [← hV']; exact blk_new _ _
  have hoV' := keep_below hbV' (blk_lt hoV) hoV
  have o0 : V'.cell? ⟨w.heap.size + 1 + 1, 0, none⟩ = some .nilFunc := (blk_cell hoV' 0).trans rfl
  have o1 : V'.cell? ⟨w.heap.size + 1 + 1, 1, none⟩ = some (.slice none 0 0) := (blk_cell hoV' 1).trans rfl
  have g0 := blk_frozen hoV' 0
  have g1 := blk_frozen hoV' 1
  have q2' := keep_below hbV' (blk_lt q2) q2
  have r2' := keep_below hbV' (blk_lt r2) r2
  have hxV' := keep_below hbV' (blk_lt hxV) hxV
  have hVs := k1.size
  have b6 : Below w.heap.size w V' := hb2.trans ((k1.mono hb2.size).trans (hbV'.mono (by omega)))
  gi_wp2
  have m1 : w.heap.size ≤ w.heap.size + 1 + 1 := by omega
  have b7 := (b6.setCell (p := ⟨w.heap.size + 1 + 1, 0, none⟩) m1 (.func (.func 72) #[] #[.pointer (some ⟨B1, 0, none⟩), .pointer (some ⟨B2, 0, none⟩), .pointer (some ⟨w.heap.size + 1, 0, none⟩)])).setCell (p := ⟨w.heap.size + 1 + 1, 1, none⟩) m1 (.slice (some ⟨V.heap.size, 0, none⟩) 3 3)
  have o7 := blk_set (blk_set hoV' 0 (.func (.func 72) #[] #[.pointer (some ⟨B1, 0, none⟩), .pointer (some ⟨B2, 0, none⟩), .pointer (some ⟨w.heap.size + 1, 0, none⟩)])) 1 (.slice (some ⟨V.heap.size, 0, none⟩) 3 3)
  have far : ∀ {g : Nat} {t : TypeId} {cs : Array Value}, V'.heap[g]? = some (.cells cs t (0, 0)) → g ≠ w.heap.size + 1 + 1 → ((V'.setCell ⟨w.heap.size + 1 + 1, 0, none⟩ (.func (.func 72) #[] #[.pointer (some ⟨B1, 0, none⟩), .pointer (some ⟨B2, 0, none⟩), .pointer (some ⟨w.heap.size + 1, 0, none⟩)])).setCell ⟨w.heap.size + 1 + 1, 1, none⟩ (.slice (some ⟨V.heap.size, 0, none⟩) 3 3)).heap[g]? = some (.cells cs t (0, 0)) :=
   fun h hne => blk_far (p := ⟨w.heap.size + 1 + 1, 1, none⟩) (blk_far (p := ⟨w.heap.size + 1 + 1, 0, none⟩) h hne _) hne _
  have q7 := far q2' (by omega)
  have r7 := far r2' (by omega)
  have x7 := far hxV' (by omega)
  have k7 := far hk' (by omega)
  refine bodyPost_ret (results_single rfl (.cell (w.heap.size + 1 + 1) 69 _ (0, 0) _ rfl o7 Try.underlying69 rfl (by kernel_rfl) .nil)) rfl ?_
  exact ⟨_, _, _, rfl, moment_fn B1 B2 (w.heap.size + 1) _ _ _ _ q7 r7 x7, row_C k7 (by simp), b7⟩
end Go.Proofs.Ytiklpefckadgdaa.P
namespace Go.Proofs.Ytiklpefckadgdaa.P
open Go.RowKit Go.Shelf Go.Proofs.Ytiklpefckadgdaa.O Go.Proofs.YtiklpefckadgdaaW.PrintWords Go.Proofs.YtiklpefckadgdaaW.PrintLast Go.Proofs.YtiklpefckadgdaaW.PrintMore
attribute [local go_sem] run_store_func_
set_option maxRecDepth 100000 in
set_option maxHeartbeats 4000000 in
theorem end_calls (A0 A1 A2 : Option Addr) (c0 c1 c2 : Nat) (l0 l1 l2 : List Int) (a3 a4 a5 : Int) (k : Nat) (x : Bool) (w : World) (hk : k < l0.length) (hlen : l0.length ≤ 1000000)
  (hr0 : Kd.C (Kd.int .i64) w A0 l0.length l0) (hc0 : l0.length ≤ c0) (hr1 : Kd.C (Kd.int .i64) w A1 l1.length l1) (hc1 : l1.length ≤ c1) (hr2 : Kd.C (Kd.int .i64) w A2 l2.length l2) (hc2 : l2.length ≤ c2) :
  Calls Try.prog 47 #[.agg #[.slice A0 l0.length c0, .slice A1 l1.length c1, .slice A2 l2.length c2, .int .i64 a3, .int .i64 a4, .int .i64 a5], .int .i64 (k : Int), .bool x] w fun e w' =>
   ∃ lb A c, e = .returned (.agg #[.func (.func 78) #[] lb, .slice A 2 c]) ∧ LineFn 78 lb (endW (startW l0 k) l0[k] x) w' ∧
    Kd.C (Kd.int .i64) w' A 2 [startW l0 k, wrap64 (startW l0 k + l0[k])] ∧ Below w.heap.size w w' := by
 have hu24 := Try.underlying24
 have hu69 := Try.underlying69
 obtain ⟨n, hn⟩ := start_ev l0 l1 l2 a3 a4 a5 k (by omega) hlen
 obtain ⟨ad, rfl, hx0⟩ := Kd.at_int hr0 (k : Int) (by omega) (by omega)
 rw [rd_get l0 k hk, Int.toNat_natCast] at hx0
 refine (callsIn_wide (n := 0)).1 (callsIn_of_wp Try.func47 rfl trivial ?_ rfl)
 simp only [Try.ntmps47, List.size_toArray, List.length_cons, List.length_nil, Nat.reduceAdd, Nat.reduceSub, Array.replicate_succ, Array.replicate_zero, List.push_toArray, List.append_toArray, List.nil_append, List.cons_append]
 obtain ⟨w2, hw2⟩ : ∃ w2, ((w.alloc (.cells #[.slice (some ad) l0.length c0, .slice A1 l1.length c1, .slice A2 l2.length c2, .int .i64 a3, .int .i64 a4, .int .i64 a5] 24 (0, 0))).alloc (.cells #[.bool x] 4 (0, 0))).alloc (.cells #[.nilFunc, .slice none 0 0] 69 (0, 0)) = w2 := ⟨_, rfl⟩
 have hb2 : Below w.heap.size w w2 := by rw [← hw2]; exact (((Below.refl _ _).alloc (Nat.le_refl _) _).alloc (by simp) _).alloc (by simp; omega) _
 have hz2 : w2.heap.size = w.heap.size + 3 := by rw [← hw2]; simp
 have hbx : w2.heap[w.heap.size]? = some (.cells #[.slice (some ad) l0.length c0, .slice A1 l1.length c1, .slice A2 l2.length c2, .int .i64 a3, .int .i64 a4, .int .i64 a5] 24 (0, 0)) := by rw [← hw2]; exact blk_alloc (blk_alloc (blk_new _ _) _) _
 have hxx : w2.heap[w.heap.size + 1]? = some (.cells #[.bool x] 4 (0, 0)) := by
  rw [← hw2]; have := blk_alloc (blk_new (w.alloc (.cells #[.slice (some ad) l0.length c0, .slice A1 l1.length c1, .slice A2 l2.length c2, .int .i64 a3, .int .i64 a4, .int .i64 a5] 24 (0, 0))) (.cells #[.bool x] 4 (0, 0))) (.cells #[.nilFunc, .slice none 0 0] 69 (0, 0)); rwa [World.size_alloc] at this
 have hout : w2.heap[w.heap.size + 1 + 1]? = some (.cells #[.nilFunc, .slice none 0 0] 69 (0, 0)) := by
  rw [← hw2]; have := blk_new ((w.alloc (.cells #[.slice (some ad) l0.length c0, .slice A1 l1.length c1, .slice A2 l2.length c2, .int .i64 a3, .int .i64 a4, .int .i64 a5] 24 (0, 0))).alloc (.cells #[.bool x] 4 (0, 0))) (.cells #[.nilFunc, .slice none 0 0] 69 (0, 0)); rwa [World.size_alloc, World.size_alloc] at this
 gi_wp2
 refine wpIn_region_any (by kernel_rfl) ?_
 change wpAnyIn _ _ _ _ _ _ _ _ _ (World.drew w2)
 refine wpAnyIn_inv (MakeInv (fun listed B1 B2 => #[.agg #[.slice (some ad) l0.length c0, .slice A1 l1.length c1, .slice A2 l2.length c2, .int .i64 a3, .int .i64 a4, .int .i64 a5], .int .i64 (k : Int), .bool x, .pointer (some ⟨w.heap.size, 0, none⟩), undef, .pointer (some ⟨w.heap.size + 1, 0, none⟩), .pointer (some ⟨w.heap.size + 1 + 1, 0, none⟩), sel listed 8 (.pointer (some ⟨B1, 0, none⟩)), sel listed 9 (.pointer (some ⟨B2, 0, none⟩)), sel listed 0 (.agg #[.slice (some ad) l0.length c0, .slice A1 l1.length c1, .slice A2 l2.length c2, .int .i64 a3, .int .i64 a4, .int .i64 a5]), sel listed 1 (.int .i64 (k : Int)), sel listed 2 (.int .i64 (startW l0 k)), sel listed 3 (.pointer (some ⟨w.heap.size, 0, none⟩)), sel listed 4 (.slice (some ad) l0.length c0), sel listed 5 (.int .i64 (k : Int)), sel listed 6 (.pointer (some (ad.add k))), sel listed 7 (.int .i64 l0[k]), undef, undef, undef, undef, undef, undef, undef]) w2 (startW l0 k) l0[k])
  12 ?step ?stop ?fin 12 _ _ _ (by simp) (closed_none _) ⟨0, 0, by simp [sel], (Below.refl _ _).drew, by simp, by simp, by simp⟩ (by simp)
 case stop =>
  intro listed a V fuel hs hc hi hr
  have := (ready_lt hr).1
  simp at hs
  omega
 case step =>
  rintro listed a V i hs hc ⟨B1, B2, rfl, k1, k2, k3, k4⟩ hr hne K hK
  obtain ⟨hlt, hl0⟩ := ready_lt hr
  have hbV := keep_below k1 (blk_lt hbx) hbx
  have hVs := k1.size
  have hi : i = 0 ∨ i = 1 ∨ i = 2 ∨ i = 3 ∨ i = 4 ∨ i = 5 ∨ i = 6 ∨ i = 7 ∨ i = 8 ∨ i = 9 ∨ i = 10 ∨ i = 11 := by simp at hs; omega
  rcases hi with rfl | rfl | rfl | rfl | rfl | rfl | rfl | rfl | rfl | rfl | rfl | rfl
  ·refine wpOpIn_of rfl rfl ?_
   have e0 : V.cell? ⟨w.heap.size, 0, none⟩ = some (.slice (some ad) l0.length c0) := (blk_cell hbV 0).trans rfl
   have e1 : V.cell? ⟨w.heap.size, 1, none⟩ = some (.slice A1 l1.length c1) := (blk_cell hbV 1).trans rfl
   have e2 : V.cell? ⟨w.heap.size, 2, none⟩ = some (.slice A2 l2.length c2) := (blk_cell hbV 2).trans rfl
   have e3 : V.cell? ⟨w.heap.size, 3, none⟩ = some (.int .i64 a3) := (blk_cell hbV 3).trans rfl
   have e4 : V.cell? ⟨w.heap.size, 4, none⟩ = some (.int .i64 a4) := (blk_cell hbV 4).trans rfl
   have e5 : V.cell? ⟨w.heap.size, 5, none⟩ = some (.int .i64 a5) := (blk_cell hbV 5).trans rfl
   clear hr
   gi_wp2
   refine ⟨B1, B2, ?_, k1, by simp (disch := decide) only [getD_same hlt, getD_other hlt]; exact k2, by simp (disch := decide) only [getD_same hlt, getD_other hlt]; exact k3, by simp (disch := decide) only [getD_same hlt, getD_other hlt]; exact k4⟩
   simp (disch := decide) only [sel_same hlt, sel_other hlt]
  ·refine wpOpIn_of rfl rfl ?_
   clear hr
   gi_wp2
   refine ⟨B1, B2, ?_, k1, by simp (disch := decide) only [getD_same hlt, getD_other hlt]; exact k2, by simp (disch := decide) only [getD_same hlt, getD_other hlt]; exact k3, by simp (disch := decide) only [getD_same hlt, getD_other hlt]; exact k4⟩
   simp (disch := decide) only [sel_same hlt, sel_other hlt]
  ·refine wpOpIn_of rfl rfl ?_
   have d0 : listed.getD 0 false = true := ready_after hr rfl { on := 0, ground := .data } (by simp) rfl
   have d1 : listed.getD 1 false = true := ready_after hr rfl { on := 1, ground := .data } (by simp) rfl
   simp only [sel_on d0, sel_on d1]
   clear hr
   gi_wp2
   refine ⟨trivial, rfl, (callsIn_w (bridge_start.calls n (some ad) c0 l0 A1 c1 l1 A2 c2 l2 a3 a4 a5 (k : Int) _ V (Kd.C_below hr0 (hb2.trans (k1.mono hb2.size))) hc0 (Kd.C_below hr1 (hb2.trans (k1.mono hb2.size))) hc1 (Kd.C_below hr2 (hb2.trans (k1.mono hb2.size))) hc2 hn)).mono ?_⟩
   rintro e V5 ⟨rfl, hb5⟩
   gi_wp2
   refine ⟨B1, B2, ?_, k1.trans (hb5.mono hVs), ?_, ?_, ?_⟩
   ·simp (disch := decide) only [sel_same hlt, sel_other hlt, sel_on d0, sel_on d1]
   ·simp (disch := decide) only [getD_same hlt, getD_other hlt]; exact fun h => ⟨(k2 h).1, keep_below hb5 (blk_lt (k2 h).2) (k2 h).2⟩
   ·simp (disch := decide) only [getD_same hlt, getD_other hlt]; exact fun h => ⟨(k3 h).1, keep_below hb5 (blk_lt (k3 h).2) (k3 h).2⟩
   ·simp (disch := decide) only [getD_same hlt, getD_other hlt]; exact k4
  ·refine wpOpIn_of rfl rfl ?_
   clear hr
   gi_wp2
   refine ⟨B1, B2, ?_, k1, by simp (disch := decide) only [getD_same hlt, getD_other hlt]; exact k2, by simp (disch := decide) only [getD_same hlt, getD_other hlt]; exact k3, by simp (disch := decide) only [getD_same hlt, getD_other hlt]; exact k4⟩
   simp (disch := decide) only [sel_same hlt, sel_other hlt]
  ·refine wpOpIn_of rfl rfl ?_
   have d3 : listed.getD 3 false = true := ready_after hr rfl { on := 3, ground := .data } (by simp) rfl
   have e0 : V.cell? ⟨w.heap.size, 0, none⟩ = some (.slice (some ad) l0.length c0) := (blk_cell hbV 0).trans rfl
   simp only [sel_on d3]
   clear hr
   gi_wp2
   refine ⟨B1, B2, ?_, k1, by simp (disch := decide) only [getD_same hlt, getD_other hlt]; exact k2, by simp (disch := decide) only [getD_same hlt, getD_other hlt]; exact k3, by simp (disch := decide) only [getD_same hlt, getD_other hlt]; exact k4⟩
   simp (disch := decide) only [sel_same hlt, sel_other hlt, sel_on d3]
  ·refine wpOpIn_of rfl rfl ?_
   clear hr
   gi_wp2
   refine ⟨B1, B2, ?_, k1, by simp (disch := decide) only [getD_same hlt, getD_other hlt]; exact k2, by simp (disch := decide) only [getD_same hlt, getD_other hlt]; exact k3, by simp (disch := decide) only [getD_same hlt, getD_other hlt]; exact k4⟩
   simp (disch := decide) only [sel_same hlt, sel_other hlt]
  ·refine wpOpIn_of rfl rfl ?_
   have d4 : listed.getD 4 false = true := ready_after hr rfl { on := 4, ground := .data } (by simp) rfl
   have d5 : listed.getD 5 false = true := ready_after hr rfl { on := 5, ground := .data } (by simp) rfl
   simp only [sel_on d4, sel_on d5]
   clear hr
   gi_wp2
   refine ⟨B1, B2, ?_, k1, by simp (disch := decide) only [getD_same hlt, getD_other hlt]; exact k2, by simp (disch := decide) only [getD_same hlt, getD_other hlt]; exact k3, by simp (disch := decide) only [getD_same hlt, getD_other hlt]; exact k4⟩
   simp (disch := decide) only [sel_same hlt, sel_other hlt, sel_on d4, sel_on d5]
  ·refine wpOpIn_of rfl rfl ?_
   have d6 : listed.getD 6 false = true := ready_after hr rfl { on := 6, ground := .data } (by simp) rfl
   have e0 := ((hb2.trans (k1.mono hb2.size)).cell (World.block_lt_of_cell? w _ hx0)).trans hx0
   simp only [sel_on d6]
   clear hr
   gi_wp2
   refine ⟨B1, B2, ?_, k1, by simp (disch := decide) only [getD_same hlt, getD_other hlt]; exact k2, by simp (disch := decide) only [getD_same hlt, getD_other hlt]; exact k3, by simp (disch := decide) only [getD_same hlt, getD_other hlt]; exact k4⟩
   simp (disch := decide) only [sel_same hlt, sel_other hlt, sel_on d6]
  ·refine wpOpIn_of rfl rfl ?_
   clear hr
   gi_wp2
   refine ⟨V.heap.size, B2, ?_, k1.alloc hVs _, ?_, ?_, ?_⟩
   ·simp (disch := decide) only [sel_same hlt, sel_other hlt]
   ·simp (disch := decide) only [getD_same hlt, getD_other hlt]
    intro _
    have d10 : ¬ listed.getD 10 false = true := fun h => by
     have := hc 10 _ rfl h { on := 8, ground := .data } (by simp) rfl
     rw [hl0] at this; cases this
    rw [if_neg d10]
    exact ⟨hVs, blk_new _ _⟩
   ·simp (disch := decide) only [getD_same hlt, getD_other hlt]; exact fun h => ⟨(k3 h).1, blk_alloc (k3 h).2 _⟩
   ·simp (disch := decide) only [getD_same hlt, getD_other hlt]
    intro _ h e
    have := blk_lt (k3 h).2
    omega
  ·refine wpOpIn_of rfl rfl ?_
   clear hr
   gi_wp2
   refine ⟨B1, V.heap.size, ?_, k1.alloc hVs _, ?_, ?_, ?_⟩
   ·simp (disch := decide) only [sel_same hlt, sel_other hlt]
   ·simp (disch := decide) only [getD_same hlt, getD_other hlt]; exact fun h => ⟨(k2 h).1, blk_alloc (k2 h).2 _⟩
   ·simp (disch := decide) only [getD_same hlt, getD_other hlt]
    intro _
    have d11 : ¬ listed.getD 11 false = true := fun h => by
     have := hc 11 _ rfl h { on := 9, ground := .data } (by simp) rfl
     rw [hl0] at this; cases this
    rw [if_neg d11]
    exact ⟨hVs, blk_new _ _⟩
   ·simp (disch := decide) only [getD_same hlt, getD_other hlt]
    intro h _ e
    have := blk_lt (k2 h).2
    omega
  ·refine wpOpIn_of rfl rfl ?_
   have d8 : listed.getD 8 false = true := ready_after hr rfl { on := 8, ground := .data } (by simp) rfl
   have d2 : listed.getD 2 false = true := ready_after hr rfl { on := 2, ground := .data } (by simp) rfl
   obtain ⟨q1, q2⟩ := k2 d8
   rw [if_neg (by rw [hl0]; decide)] at q2
   have e0 : V.cell? ⟨B1, 0, none⟩ = some (.int .i64 0) := (blk_cell q2 0).trans rfl
   have f0 := blk_frozen q2 0
   simp only [sel_on d8, sel_on d2]
   clear hr
   gi_wp2
   refine ⟨B1, B2, ?_, k1.setCell (p := ⟨B1, 0, none⟩) q1 _, ?_, ?_, ?_⟩
   ·simp (disch := decide) only [sel_other hlt, sel_on d8, sel_on d2]
   ·simp (disch := decide) only [getD_same hlt, getD_other hlt]
    rw [if_pos trivial]
    exact fun _ => ⟨q1, blk_set q2 0 _⟩
   ·simp (disch := decide) only [getD_same hlt, getD_other hlt]; exact fun h => ⟨(k3 h).1, blk_far (k3 h).2 (fun e => k4 d8 h e.symm) _⟩
   ·simp (disch := decide) only [getD_same hlt, getD_other hlt]; exact k4
  ·refine wpOpIn_of rfl rfl ?_
   have d9 : listed.getD 9 false = true := ready_after hr rfl { on := 9, ground := .data } (by simp) rfl
   have d7 : listed.getD 7 false = true := ready_after hr rfl { on := 7, ground := .data } (by simp) rfl
   obtain ⟨q1, q2⟩ := k3 d9
   rw [if_neg (by rw [hl0]; decide)] at q2
   have e0 : V.cell? ⟨B2, 0, none⟩ = some (.int .i64 0) := (blk_cell q2 0).trans rfl
   have f0 := blk_frozen q2 0
   simp only [sel_on d9, sel_on d7]
   clear hr
   gi_wp2
   refine ⟨B1, B2, ?_, k1.setCell (p := ⟨B2, 0, none⟩) q1 _, ?_, ?_, ?_⟩
   ·simp (disch := decide) only [sel_other hlt, sel_on d9, sel_on d7]
   ·simp (disch := decide) only [getD_same hlt, getD_other hlt]; exact fun h => ⟨(k2 h).1, blk_far (k2 h).2 (k4 h d9) _⟩
   ·simp (disch := decide) only [getD_same hlt, getD_other hlt]
    rw [if_pos trivial]
    exact fun _ => ⟨q1, blk_set q2 0 _⟩
   ·simp (disch := decide) only [getD_same hlt, getD_other hlt]; exact k4
 case fin =>
  rintro listed a V hs ⟨B1, B2, rfl, k1, k2, k3, k4⟩ hr
  have all : ∀ j, j < 12 → listed.getD j false = true := fun j hj => by
   cases h : listed.getD j false
   ·exact absurd hr (ready_ne hs (by kernel_rfl) j (by simpa using hj) h)
   ·rfl
  have d0 := all 0 (by decide)
  have d1 := all 1 (by decide)
  have d2 := all 2 (by decide)
  have d3 := all 3 (by decide)
  have d4 := all 4 (by decide)
  have d5 := all 5 (by decide)
  have d6 := all 6 (by decide)
  have d7 := all 7 (by decide)
  have d8 := all 8 (by decide)
  have d9 := all 9 (by decide)
  simp only [sel_on d0, sel_on d1, sel_on d2, sel_on d3, sel_on d4, sel_on d5, sel_on d6, sel_on d7, sel_on d8, sel_on d9]
  obtain ⟨q1, q2⟩ := k2 d8
  obtain ⟨r1, r2⟩ := k3 d9
  rw [if_pos (all 10 (by decide))] at q2
  rw [if_pos (all 11 (by decide))] at r2
  have c1' : V.cell? ⟨B1, 0, none⟩ = some (.int .i64 (startW l0 k)) := (blk_cell q2 0).trans rfl
  have c2' : V.cell? ⟨B2, 0, none⟩ = some (.int .i64 l0[k]) := (blk_cell r2 0).trans rfl
  have hxV := keep_below k1 (blk_lt hxx) hxx
  have hoV := keep_below k1 (blk_lt hout) hout
  have c3' : V.cell? ⟨w.heap.size + 1, 0, none⟩ = some (.bool x) := (blk_cell hxV 0).trans rfl
  clear hr all d0 d1 d2 d3 d4 d5 d6 d7 d8 d9 k2 k3 k4
  obtain ⟨V', hV'⟩ : ∃ V', V.alloc (.cells #[.int .i64 (startW l0 k), .int .i64 (wrap64 (startW l0 k + l0[k]))] 2 (0, 0)) = V' := ⟨_, rfl⟩
  have hbV' : Below V.heap.size V V' := by rw [← hV']; exact (Below.refl _ _).alloc (Nat.le_refl _) _
  have hk' : V'.heap[V.heap.size]? = some (.cells (rowOf [startW l0 k, wrap64 (startW l0 k + l0[k])]) 2 (0, 0)) := by rw [← hV']; exact blk_new _ _
  have hoV' := keep_below hbV' (blk_lt hoV) hoV
  have o0 : V'.cell? ⟨w.heap.size + 1 + 1, 0, none⟩ = some .nilFunc := (blk_cell hoV' 0).trans rfl
  have o1 : V'.cell? ⟨w.heap.size + 1 + 1, 1, none⟩ = some (.slice none 0 0) := (blk_cell hoV' 1).trans rfl
  have g0 := blk_frozen hoV' 0
  have g1 := blk_frozen hoV' 1
  have q2' := keep_below hbV' (blk_lt q2) q2
  have r2' := keep_below hbV' (blk_lt r2) r2
  have hxV' := keep_below hbV' (blk_lt hxV) hxV
  have hVs := k1.size
  have b6 : Below w.heap.size w V' := hb2.trans ((k1.mono hb2.size).trans (hbV'.mono (by omega)))
  gi_wp2
  have m1 : w.heap.size ≤ w.heap.size + 1 + 1 := by omega
  have b7 := (b6.setCell (p := ⟨w.heap.size + 1 + 1, 0, none⟩) m1 (.func (.func 78) #[] #[.pointer (some ⟨B1, 0, none⟩), .pointer (some ⟨B2, 0, none⟩), .pointer (some ⟨w.heap.size + 1, 0, none⟩)])).setCell (p := ⟨w.heap.size + 1 + 1, 1, none⟩) m1 (.slice (some ⟨V.heap.size, 0, none⟩) 2 2)
  have o7 := blk_set (blk_set hoV' 0 (.func (.func 78) #[] #[.pointer (some ⟨B1, 0, none⟩), .pointer (some ⟨B2, 0, none⟩), .pointer (some ⟨w.heap.size + 1, 0, none⟩)])) 1 (.slice (some ⟨V.heap.size, 0, none⟩) 2 2)
  have far : ∀ {g : Nat} {t : TypeId} {cs : Array Value}, V'.heap[g]? = some (.cells cs t (0, 0)) → g ≠ w.heap.size + 1 + 1 → ((V'.setCell ⟨w.heap.size + 1 + 1, 0, none⟩ (.func (.func 78) #[] #[.pointer (some ⟨B1, 0, none⟩), .pointer (some ⟨B2, 0, none⟩), .pointer (some ⟨w.heap.size + 1, 0, none⟩)])).setCell ⟨w.heap.size + 1 + 1, 1, none⟩ (.slice (some ⟨V.heap.size, 0, none⟩) 2 2)).heap[g]? = some (.cells cs t (0, 0)) :=
   fun h hne => blk_far (p := ⟨w.heap.size + 1 + 1, 1, none⟩) (blk_far (p := ⟨w.heap.size + 1 + 1, 0, none⟩) h hne _) hne _
  have q7 := far q2' (by omega)
  have r7 := far r2' (by omega)
  have x7 := far hxV' (by omega)
  have k7 := far hk' (by omega)
  refine bodyPost_ret (results_single rfl (.cell (w.heap.size + 1 + 1) 69 _ (0, 0) _ rfl o7 Try.underlying69 rfl (by kernel_rfl) .nil)) rfl ?_
  exact ⟨_, _, _, rfl, end_fn B1 B2 (w.heap.size + 1) _ _ _ _ q7 r7 x7, row_C k7 (by simp), b7⟩
end Go.Proofs.Ytiklpefckadgdaa.P
noncomputable section
namespace Go.Proofs.Ytiklpefckadgdaa.P
open Go.RowKit Go.Proofs.YtiklpefckadgdaaW.PrintWords Go.Proofs.YtiklpefckadgdaaW.PrintLast Go.Proofs.YtiklpefckadgdaaW.PrintMore
attribute [local go_sem] max2_int min2_int max_two min_two max_three min_three max_four min_four   -- for this text's walks alone
set_option linter.unusedVariables false
set_option linter.unusedSimpArgs false
def cmp_Or_76.l0 : Nat → Int → List Int → Int → Int → Option (Int)
 | 0, _, _, _, _ => none
 | k + 1, x3, x6, x7, x8 => if x8 < x7 then (if 0 ≤ x8 then (if x8 < (x6.length : Int) then (if (rd x6 x8) = x3 then (cmp_Or_76.l0 k x3 x6 x7 (wrap64 (x8 + 1))) else (some (rd x6 x8))) else (none)) else (none)) else (some x3)
def cmp_Or_76.f (k : Nat) (l0 : List Int) : Option (Int) := cmp_Or_76.l0 k 0 l0 (l0.length : Int) 0
theorem cmp_Or_76.mono_l : ∀ k, (∀ y0 y1 y2 y3, LeO (cmp_Or_76.l0 k y0 y1 y2 y3) (cmp_Or_76.l0 (k + 1) y0 y1 y2 y3))
 | 0 => fun _ _ _ _ r h => by simp [cmp_Or_76.l0] at h
 | k + 1 => by
  have ih0 := cmp_Or_76.mono_l k
  ·intro y0 y1 y2 y3
   unfold cmp_Or_76.l0
   repeat' first
   | (with_reducible exact ih0 _ _ _ _)
   | (with_reducible exact LeO.refl _)
   | (with_reducible exact LeO.none _)
   | (with_reducible refine LeO.ite ?_ ?_)
   | (with_reducible refine LeO.bind ?_ (fun _ => ?_))
   | exact ih0 _ _ _ _
   | exact LeO.none _
   | refine LeO.ite ?_ ?_
   | refine LeO.bind ?_ (fun _ => ?_)
theorem cmp_Or_76.mono : ∀ a0 k, LeO (cmp_Or_76.f k a0) (cmp_Or_76.f (k + 1) a0) := by
 intro a0 k
 have ih0 := cmp_Or_76.mono_l k
 unfold cmp_Or_76.f
 repeat' first
   | (with_reducible exact ih0 _ _ _ _)
   | (with_reducible exact LeO.refl _)
   | (with_reducible exact LeO.none _)
   | (with_reducible refine LeO.ite ?_ ?_)
   | (with_reducible refine LeO.bind ?_ (fun _ => ?_))
   | exact ih0 _ _ _ _
   | exact LeO.none _
   | refine LeO.ite ?_ ?_
   | refine LeO.bind ?_ (fun _ => ?_)
set_option maxHeartbeats 8000000 in
set_option maxRecDepth 100000 in
theorem cmp_Or_76.calls (k : Nat) (A0 : Option Addr) (c0 : Nat) (l0 : List Int) (r : Int) (w : World) (hr0 : Kd.C (Kd.int .i64) w A0 l0.length l0) (hc0 : l0.length ≤ c0) (h : cmp_Or_76.f k l0 = some r) :
  Calls Try.prog 76 #[.slice A0 l0.length c0] w fun e w' => e = .returned (.int .i64 r) ∧ Drawn0 w w' := by
 have HR0 := Aside0.mk hr0
 have HC0 := Aside0.mk hc0
 clear hr0 hc0
 have H : (cmp_Or_76.l0 k 0 l0 (l0.length : Int) 0) = some r := h
 clear h
 have H' := Aside0.mk H
 clear H
 go_enter Try.func76, Try.ntmps76
 go_wp2
 go_loopg [8] k (fun kq v8 w' => ∃ (x8_1 : Int), v8 = .int .i64 x8_1 ∧ Aside0 (cmp_Or_76.l0 kq 0 l0 (l0.length : Int) x8_1 = some r) ∧ Aside0 (kq ≤ k) ∧ Drawn0 w w')
 case atStart => exact ⟨(0), (by first | rfl | (simp; done) | (simp [*]; done)), H', ⟨Nat.le_refl _⟩, by repeat (first | exact Drawn0.refl _ | apply Drawn0.step)⟩
 case round =>
  clear H'
  obtain ⟨x8_1, rfl, HA, HK1, ⟨m1, rfl⟩⟩ := hrel
  cases gk with
  | zero => exact absurd HA.out (by simp [cmp_Or_76.l0])
  | succ k1 =>
   have H := HA.out
   clear HA
   simp only [cmp_Or_76.l0] at H
   by_cases c2 : x8_1 < (l0.length : Int)
   ·rw [if_pos c2] at H
    have c2b0 : decide (x8_1 < (l0.length : Int)) = true := decide_eq_true c2
    clear c2
    by_cases c3 : 0 ≤ x8_1
    ·rw [if_pos c3] at H
     have c3b0 : decide (0 ≤ x8_1) = true := decide_eq_true c3
     clear c3
     by_cases c4 : x8_1 < (l0.length : Int)
     ·rw [if_pos c4] at H
      have c4b0 : decide (x8_1 < (l0.length : Int)) = true := decide_eq_true c4
      clear c4
      by_cases c5 : (rd l0 x8_1) = 0
      ·rw [if_pos c5] at H
       have c5b0 : ((rd l0 x8_1) == 0) = true := beq_iff_eq.mpr c5
       have c5b1 : ((rd l0 x8_1) != 0) = false := bne_eq_false_iff_eq.mpr c5
       clear c5
       have H' := Aside0.mk H
       clear H
       have p101 : 0 ≤ (x8_1 : Int) := of_decide_eq_true (by first | (with_reducible assumption) | assumption)
       have q101 : x8_1 < (l0.length : Int) := of_decide_eq_true (by first | (with_reducible assumption) | assumption)
       obtain ⟨ad101, e101, hx101_0⟩ := Kd.at_int HR0.out x8_1 p101 q101
       cases e101
       replace p101 := eq_true p101
       replace q101 := eq_true q101
       go_wp2
       go_roundg k1
       case measure => have := HK1.out; omega
       case rel => exact ⟨(wrap64 (x8_1 + 1)), (by first | rfl | (simp; done) | (simp [*]; done)), H', ⟨by have := HK1.out; omega⟩, by repeat (first | exact Drawn0.refl _ | apply Drawn0.step)⟩
      ·rw [if_neg c5] at H
       have c5b0 : ((rd l0 x8_1) == 0) = false := beq_eq_false_iff_ne.mpr c5
       have c5b1 : ((rd l0 x8_1) != 0) = true := bne_iff_ne.mpr c5
       obtain rfl := Option.some.inj H
       have p101 : 0 ≤ (x8_1 : Int) := of_decide_eq_true (by first | (with_reducible assumption) | assumption)
       have q101 : x8_1 < (l0.length : Int) := of_decide_eq_true (by first | (with_reducible assumption) | assumption)
       obtain ⟨ad101, e101, hx101_0⟩ := Kd.at_int HR0.out x8_1 p101 q101
       cases e101
       replace p101 := eq_true p101
       replace q101 := eq_true q101
       go_wp2
       go_ret
       exact ⟨by first | rfl | (simp; done) | (simp [*]; done), by repeat (first | exact Drawn0.refl _ | apply Drawn0.step)⟩
     ·rw [if_neg c4] at H
      exact absurd H (by simp)
    ·rw [if_neg c3] at H
     exact absurd H (by simp)
   ·rw [if_neg c2] at H
    have c2b0 : decide (x8_1 < (l0.length : Int)) = false := decide_eq_false c2
    clear c2
    obtain rfl := Option.some.inj H
    go_wp2
    go_ret
    exact ⟨by first | rfl | (simp; done) | (simp [*]; done), by repeat (first | exact Drawn0.refl _ | apply Drawn0.step)⟩
end Go.Proofs.Ytiklpefckadgdaa.P
noncomputable section
namespace Go.Proofs.Ytiklpefckadgdaa.P
open Go.RowKit Go.Proofs.YtiklpefckadgdaaW.PrintWords Go.Proofs.YtiklpefckadgdaaW.PrintLast Go.Proofs.YtiklpefckadgdaaW.PrintMore
attribute [local go_sem] max2_int min2_int max_two min_two max_three min_three max_four min_four   -- for this text's walks alone
set_option linter.unusedVariables false
set_option linter.unusedSimpArgs false
def cmp_isNaN_91.f (a0 : Int) : Option (Bool) := some (a0 != a0)
set_option maxHeartbeats 8000000 in
set_option maxRecDepth 100000 in
theorem cmp_isNaN_91.calls (a0 : Int) (r : Bool) (w : World) (h : cmp_isNaN_91.f a0 = some r) :
  Calls Try.prog 91 #[.int .i64 a0] w fun e w' => e = .returned (.bool r) ∧ Drawn0 w w' := by
 have H : (some (a0 != a0)) = some r := h
 clear h
 obtain rfl := Option.some.inj H
 go_enter Try.func91, Try.ntmps91
 go_wp2
 go_ret
 exact ⟨by first | rfl | (simp; done) | (simp [*]; done), by repeat (first | exact Drawn0.refl _ | apply Drawn0.step)⟩
end Go.Proofs.Ytiklpefckadgdaa.P
noncomputable section
namespace Go.Proofs.Ytiklpefckadgdaa.P
open Go.RowKit Go.Proofs.YtiklpefckadgdaaW.PrintWords Go.Proofs.YtiklpefckadgdaaW.PrintLast Go.Proofs.YtiklpefckadgdaaW.PrintMore
attribute [local go_sem] max2_int min2_int max_two min_two max_three min_three max_four min_four   -- for this text's walks alone
set_option linter.unusedVariables false
set_option linter.unusedSimpArgs false
def cmp_Compare_77.f (a0 : Int) (a1 : Int) : Option (Int) := (cmp_isNaN_91.f a0).bind fun t101 => ((cmp_isNaN_91.f a1).bind fun t102 => (if t101 = true then (if t102 = true then (some 0) else (some (-1))) else (if t102 = true then (some 1) else (if a0 < a1 then (some (-1)) else (if a0 > a1 then (some 1) else (some 0))))))
set_option maxHeartbeats 8000000 in
set_option maxRecDepth 100000 in
theorem cmp_Compare_77.calls (a0 : Int) (a1 : Int) (r : Int) (w : World) (h : cmp_Compare_77.f a0 a1 = some r) :
  Calls Try.prog 77 #[.int .i64 a0, .int .i64 a1] w fun e w' => e = .returned (.int .i64 r) ∧ Drawn0 w w' := by
 have H : ((cmp_isNaN_91.f a0).bind fun t101 => ((cmp_isNaN_91.f a1).bind fun t102 => (if t101 = true then (if t102 = true then (some 0) else (some (-1))) else (if t102 = true then (some 1) else (if a0 < a1 then (some (-1)) else (if a0 > a1 then (some 1) else (some 0))))))) = some r := h
 clear h
 replace H := Option.bind_eq_some_iff.mp H
 obtain ⟨t101, A30, H⟩ := H
 replace H : ((cmp_isNaN_91.f a1).bind fun t102 => (if t101 = true then (if t102 = true then (some 0) else (some (-1))) else (if t102 = true then (some 1) else (if a0 < a1 then (some (-1)) else (if a0 > a1 then (some 1) else (some 0)))))) = some r := H
 have A3 := Aside0.mk A30
 clear A30
 replace H := Option.bind_eq_some_iff.mp H
 obtain ⟨t102, A40, H⟩ := H
 replace H : (if t101 = true then (if t102 = true then (some 0) else (some (-1))) else (if t102 = true then (some 1) else (if a0 < a1 then (some (-1)) else (if a0 > a1 then (some 1) else (some 0))))) = some r := H
 have A4 := Aside0.mk A40
 clear A40
 by_cases c5 : t101 = true
 ·subst c5
  have H1 : (if t102 = true then (some 0) else (some (-1))) = some r := by rw [if_pos rfl] at H; exact H
  clear H
  have H := H1
  clear H1
  by_cases c6 : t102 = true
  ·subst c6
   have H1 : (some 0) = some r := by rw [if_pos rfl] at H; exact H
   clear H
   have H := H1
   clear H1
   obtain rfl := Option.some.inj H
   go_enter Try.func77, Try.ntmps77
   go_wp2_with (first | ((with_reducible refine gate_callee (f := 91) rfl ?_); refine goesL_ (some 8) rfl rfl Try.func91 (by kernel_rfl) rfl #[.int .i64 a0] rfl (by (try simp only [List.map_toArray, List.map_cons, List.map_nil]); first | done | rfl | (simp only [List.length_drop, List.length_take]; rfl)) ?_; (with_reducible refine (cmp_isNaN_91.calls a0 true _ A3.out).mono ?_); rintro e w' ⟨rfl, ⟨nd, rfl⟩⟩; refine ⟨_, rfl, ?_⟩) | ((with_reducible refine gate_callee (f := 91) rfl ?_); refine goesL_ (some 10) rfl rfl Try.func91 (by kernel_rfl) rfl #[.int .i64 a1] rfl (by (try simp only [List.map_toArray, List.map_cons, List.map_nil]); first | done | rfl | (simp only [List.length_drop, List.length_take]; rfl)) ?_; (with_reducible refine (cmp_isNaN_91.calls a1 true _ A4.out).mono ?_); rintro e w' ⟨rfl, ⟨nd, rfl⟩⟩; refine ⟨_, rfl, ?_⟩))
   go_ret
   exact ⟨by first | rfl | (simp; done) | (simp [*]; done), by repeat (first | exact Drawn0.refl _ | apply Drawn0.step)⟩
  ·replace c6 := Bool.eq_false_iff.mpr c6
   subst c6
   have H1 : (some (-1)) = some r := by rw [if_neg (show ¬ (false = true) by decide)] at H; exact H
   clear H
   have H := H1
   clear H1
   obtain rfl := Option.some.inj H
   go_enter Try.func77, Try.ntmps77
   go_wp2_with (first | ((with_reducible refine gate_callee (f := 91) rfl ?_); refine goesL_ (some 8) rfl rfl Try.func91 (by kernel_rfl) rfl #[.int .i64 a0] rfl (by (try simp only [List.map_toArray, List.map_cons, List.map_nil]); first | done | rfl | (simp only [List.length_drop, List.length_take]; rfl)) ?_; (with_reducible refine (cmp_isNaN_91.calls a0 true _ A3.out).mono ?_); rintro e w' ⟨rfl, ⟨nd, rfl⟩⟩; refine ⟨_, rfl, ?_⟩) | ((with_reducible refine gate_callee (f := 91) rfl ?_); refine goesL_ (some 10) rfl rfl Try.func91 (by kernel_rfl) rfl #[.int .i64 a1] rfl (by (try simp only [List.map_toArray, List.map_cons, List.map_nil]); first | done | rfl | (simp only [List.length_drop, List.length_take]; rfl)) ?_; (with_reducible refine (cmp_isNaN_91.calls a1 false _ A4.out).mono ?_); rintro e w' ⟨rfl, ⟨nd, rfl⟩⟩; refine ⟨_, rfl, ?_⟩))
   go_ret
   exact ⟨by first | rfl | (simp; done) | (simp [*]; done), by repeat (first | exact Drawn0.refl _ | apply Drawn0.step)⟩
 ·replace c5 := Bool.eq_false_iff.mpr c5
  subst c5
  have H1 : (if t102 = true then (some 1) else (if a0 < a1 then (some (-1)) else (if a0 > a1 then (some 1) else (some 0)))) = some r := by rw [if_neg (show ¬ (false = true) by decide)] at H; exact H
  clear H
  have H := H1
  clear H1
  by_cases c7 : t102 = true
  ·subst c7
   have H1 : (some 1) = some r := by rw [if_pos rfl] at H; exact H
   clear H
   have H := H1
   clear H1
   obtain rfl := Option.some.inj H
   go_enter Try.func77, Try.ntmps77
   go_wp2_with (first | ((with_reducible refine gate_callee (f := 91) rfl ?_); refine goesL_ (some 8) rfl rfl Try.func91 (by kernel_rfl) rfl #[.int .i64 a0] rfl (by (try simp only [List.map_toArray, List.map_cons, List.map_nil]); first | done | rfl | (simp only [List.length_drop, List.length_take]; rfl)) ?_; (with_reducible refine (cmp_isNaN_91.calls a0 false _ A3.out).mono ?_); rintro e w' ⟨rfl, ⟨nd, rfl⟩⟩; refine ⟨_, rfl, ?_⟩) | ((with_reducible refine gate_callee (f := 91) rfl ?_); refine goesL_ (some 10) rfl rfl Try.func91 (by kernel_rfl) rfl #[.int .i64 a1] rfl (by (try simp only [List.map_toArray, List.map_cons, List.map_nil]); first | done | rfl | (simp only [List.length_drop, List.length_take]; rfl)) ?_; (with_reducible refine (cmp_isNaN_91.calls a1 true _ A4.out).mono ?_); rintro e w' ⟨rfl, ⟨nd, rfl⟩⟩; refine ⟨_, rfl, ?_⟩))
   go_ret
   exact ⟨by first | rfl | (simp; done) | (simp [*]; done), by repeat (first | exact Drawn0.refl _ | apply Drawn0.step)⟩
  ·replace c7 := Bool.eq_false_iff.mpr c7
   subst c7
   have H1 : (if a0 < a1 then (some (-1)) else (if a0 > a1 then (some 1) else (some 0))) = some r := by rw [if_neg (show ¬ (false = true) by decide)] at H; exact H
   clear H
   have H := H1
   clear H1
   by_cases c8 : a0 < a1
   ·rw [if_pos c8] at H
    have c8b0 : decide (a0 < a1) = true := decide_eq_true c8
    clear c8
    obtain rfl := Option.some.inj H
    go_enter Try.func77, Try.ntmps77
    go_wp2_with (first | ((with_reducible refine gate_callee (f := 91) rfl ?_); refine goesL_ (some 8) rfl rfl Try.func91 (by kernel_rfl) rfl #[.int .i64 a0] rfl (by (try simp only [List.map_toArray, List.map_cons, List.map_nil]); first | done | rfl | (simp only [List.length_drop, List.length_take]; rfl)) ?_; (with_reducible refine (cmp_isNaN_91.calls a0 false _ A3.out).mono ?_); rintro e w' ⟨rfl, ⟨nd, rfl⟩⟩; refine ⟨_, rfl, ?_⟩) | ((with_reducible refine gate_callee (f := 91) rfl ?_); refine goesL_ (some 10) rfl rfl Try.func91 (by kernel_rfl) rfl #[.int .i64 a1] rfl (by (try simp only [List.map_toArray, List.map_cons, List.map_nil]); first | done | rfl | (simp only [List.length_drop, List.length_take]; rfl)) ?_; (with_reducible refine (cmp_isNaN_91.calls a1 false _ A4.out).mono ?_); rintro e w' ⟨rfl, ⟨nd, rfl⟩⟩; refine ⟨_, rfl, ?_⟩))
    go_ret
    exact ⟨by first | rfl | (simp; done) | (simp [*]; done), by repeat (first | exact Drawn0.refl _ | apply Drawn0.step)⟩
   ·rw [if_neg c8] at H
    have c8b0 : decide (a0 < a1) = false := decide_eq_false c8
    clear c8
    by_cases c9 : a0 > a1
    ·rw [if_pos c9] at H
     have c9b0 : decide (a1 < a0) = true := decide_eq_true c9
     clear c9
     obtain rfl := Option.some.inj H
     go_enter Try.func77, Try.ntmps77
     go_wp2_with (first | ((with_reducible refine gate_callee (f := 91) rfl ?_); refine goesL_ (some 8) rfl rfl Try.func91 (by kernel_rfl) rfl #[.int .i64 a0] rfl (by (try simp only [List.map_toArray, List.map_cons, List.map_nil]); first | done | rfl | (simp only [List.length_drop, List.length_take]; rfl)) ?_; (with_reducible refine (cmp_isNaN_91.calls a0 false _ A3.out).mono ?_); rintro e w' ⟨rfl, ⟨nd, rfl⟩⟩; refine ⟨_, rfl, ?_⟩) | ((with_reducible refine gate_callee (f := 91) rfl ?_); refine goesL_ (some 10) rfl rfl Try.func91 (by kernel_rfl) rfl #[.int .i64 a1] rfl (by (try simp only [List.map_toArray, List.map_cons, List.map_nil]); first | done | rfl | (simp only [List.length_drop, List.length_take]; rfl)) ?_; (with_reducible refine (cmp_isNaN_91.calls a1 false _ A4.out).mono ?_); rintro e w' ⟨rfl, ⟨nd, rfl⟩⟩; refine ⟨_, rfl, ?_⟩))
     go_ret
     exact ⟨by first | rfl | (simp; done) | (simp [*]; done), by repeat (first | exact Drawn0.refl _ | apply Drawn0.step)⟩
    ·rw [if_neg c9] at H
     have c9b0 : decide (a1 < a0) = false := decide_eq_false c9
     clear c9
     obtain rfl := Option.some.inj H
     go_enter Try.func77, Try.ntmps77
     go_wp2_with (first | ((with_reducible refine gate_callee (f := 91) rfl ?_); refine goesL_ (some 8) rfl rfl Try.func91 (by kernel_rfl) rfl #[.int .i64 a0] rfl (by (try simp only [List.map_toArray, List.map_cons, List.map_nil]); first | done | rfl | (simp only [List.length_drop, List.length_take]; rfl)) ?_; (with_reducible refine (cmp_isNaN_91.calls a0 false _ A3.out).mono ?_); rintro e w' ⟨rfl, ⟨nd, rfl⟩⟩; refine ⟨_, rfl, ?_⟩) | ((with_reducible refine gate_callee (f := 91) rfl ?_); refine goesL_ (some 10) rfl rfl Try.func91 (by kernel_rfl) rfl #[.int .i64 a1] rfl (by (try simp only [List.map_toArray, List.map_cons, List.map_nil]); first | done | rfl | (simp only [List.length_drop, List.length_take]; rfl)) ?_; (with_reducible refine (cmp_isNaN_91.calls a1 false _ A4.out).mono ?_); rintro e w' ⟨rfl, ⟨nd, rfl⟩⟩; refine ⟨_, rfl, ?_⟩))
     go_ret
     exact ⟨by first | rfl | (simp; done) | (simp [*]; done), by repeat (first | exact Drawn0.refl _ | apply Drawn0.step)⟩
end Go.Proofs.Ytiklpefckadgdaa.P
noncomputable section
namespace Go.Proofs.Ytiklpefckadgdaa.P
open Go.RowKit Go.Proofs.YtiklpefckadgdaaW.PrintWords Go.Proofs.YtiklpefckadgdaaW.PrintLast Go.Proofs.YtiklpefckadgdaaW.PrintMore
attribute [local go_sem] max2_int min2_int max_two min_two max_three min_three max_four min_four   -- for this text's walks alone
set_option linter.unusedVariables false
set_option linter.unusedSimpArgs false
def bridge_influence_worst_2.f (k : Nat) (a0_0 : Int) (a0_1 : Int) (a0_2 : Int) (a0_3 : Int) (a1_0 : Int) (a1_1 : Int) (a1_2 : Int) (a1_3 : Int) : Option (Bool) := (cmp_Compare_77.f a0_0 a1_0).bind fun t103 => ((cmp_Compare_77.f a1_3 a0_3).bind fun t104 => ((cmp_Or_76.f k (([t103, t104] : List Int))).bind fun t108 => (some (decide (t108 < 0)))))
theorem bridge_influence_worst_2.mono : ∀ a0 a1 a2 a3 a4 a5 a6 a7 k, LeO (bridge_influence_worst_2.f k a0 a1 a2 a3 a4 a5 a6 a7) (bridge_influence_worst_2.f (k + 1) a0 a1 a2 a3 a4 a5 a6 a7) := by
 intro a0 a1 a2 a3 a4 a5 a6 a7 k
 unfold bridge_influence_worst_2.f
 repeat' first
   | (with_reducible exact cmp_Or_76.mono _ _)
   | (with_reducible exact LeO.refl _)
   | (with_reducible exact LeO.none _)
   | (with_reducible refine LeO.ite ?_ ?_)
   | (with_reducible refine LeO.bind ?_ (fun _ => ?_))
   | exact cmp_Or_76.mono _ _
   | exact LeO.none _
   | refine LeO.ite ?_ ?_
   | refine LeO.bind ?_ (fun _ => ?_)
def bridge_influence_worst_2.T1 : Bool × List (List Nat × List Nat) := (true, [([], []), ([0], [0]), ([], []), ([2], [2]), ([1, 3], [1, 3]), ([], []), ([5], [5]), ([], []), ([7], [7]), ([6, 8, 4], [6, 8]), ([4, 9], [4, 9]), ([10, 9], [10]), ([11], [11]), ([12, 11, 0, 1, 2, 3, 4, 5, 6, 7, 8, 9, 10, 11, 12], [12])])
def bridge_influence_worst_2.B1 : List Nat := [0, 1, 0, 4, 15, 0, 32, 0, 128, 511, 1023, 2047, 4095, 8191]
theorem bridge_influence_worst_2.tab1 : rtab .any (opsOf Try.f75 1) = bridge_influence_worst_2.T1 := by kernel_rfl
theorem bridge_influence_worst_2.bits1 : waitsOk bridge_influence_worst_2.T1.2 bridge_influence_worst_2.B1 = true := by kernel_rfl
set_option maxHeartbeats 8000000 in
set_option maxRecDepth 100000 in
theorem bridge_influence_worst_2.calls (k : Nat) (a0_0 : Int) (a0_1 : Int) (a0_2 : Int) (a0_3 : Int) (a1_0 : Int) (a1_1 : Int) (a1_2 : Int) (a1_3 : Int) (r : Bool) (w : World) (h : bridge_influence_worst_2.f k a0_0 a0_1 a0_2 a0_3 a1_0 a1_1 a1_2 a1_3 = some r) :
  Calls Try.prog 75 #[.agg #[.int .i64 a0_0, .int .i64 a0_1, .int .i64 a0_2, .int .i64 a0_3], .agg #[.int .i64 a1_0, .int .i64 a1_1, .int .i64 a1_2, .int .i64 a1_3]] w fun e w' => e = .returned (.bool r) ∧ Below w.heap.size w w' := by
 have hu29 := Try.underlying29
 have HB := Aside0.mk (Below.refl w.heap.size w)
 have H : ((cmp_Compare_77.f a0_0 a1_0).bind fun t103 => ((cmp_Compare_77.f a1_3 a0_3).bind fun t104 => ((cmp_Or_76.f k (([t103, t104] : List Int))).bind fun t108 => (some (decide (t108 < 0)))))) = some r := h
 clear h
 replace H := Option.bind_eq_some_iff.mp H
 obtain ⟨t103, A30, H⟩ := H
 replace H : ((cmp_Compare_77.f a1_3 a0_3).bind fun t104 => ((cmp_Or_76.f k (([t103, t104] : List Int))).bind fun t108 => (some (decide (t108 < 0))))) = some r := H
 have A3 := Aside0.mk A30
 clear A30
 replace H := Option.bind_eq_some_iff.mp H
 obtain ⟨t104, A40, H⟩ := H
 replace H : ((cmp_Or_76.f k (([t103, t104] : List Int))).bind fun t108 => (some (decide (t108 < 0)))) = some r := H
 have A4 := Aside0.mk A40
 clear A40
 obtain ⟨y105, hy105⟩ : ∃ y_ : List Int, y_ = (([t103, t104] : List Int)) := ⟨_, rfl⟩
 replace H : ((cmp_Or_76.f k y105).bind fun t108 => (some (decide (t108 < 0)))) = some r := by first | (rw [hy105]; with_reducible exact H) | (have H2_ := (Option.bind_some _ _).symm.trans H; rw [hy105]; with_reducible exact H2_) | (have H2_ := (Option.bind_some _ _).symm.trans H; with_reducible exact H2_) | with_reducible exact H | (rw [hy105]; exact H) | exact H
 have Ny105 := Aside0.mk hy105
 clear hy105
 replace H := Option.bind_eq_some_iff.mp H
 obtain ⟨t108, A50, H⟩ := H
 replace H : (some (decide (t108 < 0))) = some r := H
 have A5 := Aside0.mk A50
 clear A50
 obtain rfl := Option.some.inj H
 go_enter Try.func75, Try.ntmps75
 try go_wp2_with (first | ((with_reducible refine gate_dst (N := 2) rfl ?_); refine box_event ?hg (N := 2) ?hd (cs := #[.int .i64 a0_0, .int .i64 a0_1, .int .i64 a0_2, .int .i64 a0_3]) (t := 29) ?hr ?_; (case hd => rfl); (case hg => rfl); (case hr => first | (go_simp; done) | (go_simp; rfl)); intro gb101 hg w6 hbox hb; have n0_ := Aside0.mk (below_step (by repeat (first | (with_reducible first | exact HB.out | apply below_alloc | apply pw_below_drewN | apply below_drew1) | exact HB.out)) hb); have n1_ := Aside0.mk (hbox); have n2_ := Aside0.mk ((by rw [hg]; exact (below_size (by repeat (first | (with_reducible first | exact HB.out | apply below_alloc | apply pw_below_drewN | apply below_drew1) | exact HB.out))) : w.heap.size ≤ gb101)); have n3_ := Aside0.mk ((by rw [hg]; exact (below_size (by repeat (first | (with_reducible first | exact HB.out | apply below_alloc | apply pw_below_drewN | apply below_drew1) | exact HB.out))) : w.heap.size ≤ gb101)); clear HB; have HB := n0_; have BK101 := n1_; have GW101 := n2_; have GE101 := n3_; clear n0_ n1_ n2_ n3_; clear hb hbox hg) | ((with_reducible refine gate_dst (N := 3) rfl ?_); refine box_event ?hg (N := 3) ?hd (cs := #[.int .i64 a1_0, .int .i64 a1_1, .int .i64 a1_2, .int .i64 a1_3]) (t := 29) ?hr ?_; (case hd => rfl); (case hg => rfl); (case hr => first | (go_simp; done) | (go_simp; rfl)); intro gb102 hg w7 hbox hb; have n0_ := Aside0.mk (blk_below (g := gb101) (o := .cells #[.int .i64 a0_0, .int .i64 a0_1, .int .i64 a0_2, .int .i64 a0_3] 29 (0, 0)) (by (with_reducible repeat (first | refine blk_drewN ?_ _ | refine blk_drew ?_ | refine blk_alloc ?_ _)); exact BK101.out) hb); have n1_ := Aside0.mk (below_step (by repeat (first | (with_reducible first | exact HB.out | apply below_alloc | apply pw_below_drewN | apply below_drew1 | refine below_set ?_ GE101.out) | exact HB.out)) hb); have n2_ := Aside0.mk (hbox); have n3_ := Aside0.mk ((by rw [hg]; exact (below_size (by repeat (first | (with_reducible first | exact HB.out | apply below_alloc | apply pw_below_drewN | apply below_drew1 | refine below_set ?_ GE101.out) | exact HB.out))) : w.heap.size ≤ gb102)); have n4_ := Aside0.mk ((by rw [hg]; exact (below_size (by repeat (first | (with_reducible first | exact HB.out | apply below_alloc | apply pw_below_drewN | apply below_drew1 | refine below_set ?_ GE101.out) | exact HB.out))) : w.heap.size ≤ gb102)); have n5_ := Aside0.mk ((by rw [hg]; exact Nat.ne_of_lt (blk_lt (g := gb101) (o := .cells #[.int .i64 a0_0, .int .i64 a0_1, .int .i64 a0_2, .int .i64 a0_3] 29 (0, 0)) (by (with_reducible repeat (first | refine blk_drewN ?_ _ | refine blk_drew ?_ | refine blk_alloc ?_ _)); exact BK101.out)) : gb101 ≠ gb102)); have n6_ := Aside0.mk ((by rw [hg]; exact Nat.ne_of_gt (blk_lt (g := gb101) (o := .cells #[.int .i64 a0_0, .int .i64 a0_1, .int .i64 a0_2, .int .i64 a0_3] 29 (0, 0)) (by (with_reducible repeat (first | refine blk_drewN ?_ _ | refine blk_drew ?_ | refine blk_alloc ?_ _)); exact BK101.out)) : gb102 ≠ gb101)); clear BK101; clear HB; have BK101 := n0_; have HB := n1_; have BK102 := n2_; have GW102 := n3_; have GE102 := n4_; have NB101_102 := n5_; have NB102_101 := n6_; clear n0_ n1_ n2_ n3_ n4_ n5_ n6_; clear hb hbox hg))
 have n0_ := Aside0.mk (blk_drew BK101.out)
 have n1_ := Aside0.mk (blk_drew BK102.out)
 have n2_ := Aside0.mk (below_drew1 HB.out)
 clear BK101
 clear BK102
 clear HB
 have BK101 := n0_
 have BK102 := n1_
 have HB := n2_
 clear n0_ n1_ n2_
 refine start_ (n := 14) (S := fun w' => w'.cell? ⟨gb101, 0, none⟩ = some (.int .i64 a0_0) ∧ w'.cell? ⟨gb101, 1, none⟩ = some (.int .i64 a0_1) ∧ w'.cell? ⟨gb101, 2, none⟩ = some (.int .i64 a0_2) ∧ w'.cell? ⟨gb101, 3, none⟩ = some (.int .i64 a0_3) ∧ w'.cell? ⟨gb102, 0, none⟩ = some (.int .i64 a1_0) ∧ w'.cell? ⟨gb102, 1, none⟩ = some (.int .i64 a1_1) ∧ w'.cell? ⟨gb102, 2, none⟩ = some (.int .i64 a1_2) ∧ w'.cell? ⟨gb102, 3, none⟩ = some (.int .i64 a1_3)) (ds := []) #[false, false, false, false, false, false, false, false, false, false, false, false, false, false] (by kernel_rfl) rfl rfl ⟨(blk_cell BK101.out 0).trans rfl, (blk_cell BK101.out 1).trans rfl, (blk_cell BK101.out 2).trans rfl, (blk_cell BK101.out 3).trans rfl, (blk_cell BK102.out 0).trans rfl, (blk_cell BK102.out 1).trans rfl, (blk_cell BK102.out 2).trans rfl, (blk_cell BK102.out 3).trans rfl⟩ (fun hHeld => ?_); refine with_tabW bridge_influence_worst_2.tab1 bridge_influence_worst_2.bits1 (fun HT_ HW_ => ?_)
 generalize w7.drew = w8 at BK101 BK102 HB hHeld ⊢
 refine pure_ (i := 0) (N := some 5) (v := ?_) (a' := ?_) #[true, false, false, false, false, false, false, false, false, false, false, false, false, false] rfl rfl (any_of HT_.out (by kernel_rfl)) (fun _ _ _ h => h) (Or.inl ⟨by rfl, ?_⟩) ?_ ?_
 rotate_left
 ·intro w'
  go_simp
  with_reducible rfl
 rotate_left
 ·simp only [Act.put, List.setIfInBounds_toArray, List.set_cons_zero, List.set_cons_succ, i64_w, i32_w]
  rfl
 refine pure_ (i := 2) (N := some 7) (v := ?_) (a' := ?_) #[true, false, true, false, false, false, false, false, false, false, false, false, false, false] rfl rfl (any_of HT_.out (by kernel_rfl)) (fun _ _ _ h => h) (Or.inl ⟨by rfl, ?_⟩) ?_ ?_
 rotate_left
 ·intro w'
  go_simp
  with_reducible rfl
 rotate_left
 ·simp only [Act.put, List.setIfInBounds_toArray, List.set_cons_zero, List.set_cons_succ, i64_w, i32_w]
  rfl
 refine pure_ (i := 5) (N := some 10) (v := ?_) (a' := ?_) #[true, false, true, false, false, true, false, false, false, false, false, false, false, false] rfl rfl (any_of HT_.out (by kernel_rfl)) (fun _ _ _ h => h) (Or.inl ⟨by rfl, ?_⟩) ?_ ?_
 rotate_left
 ·intro w'
  go_simp
  with_reducible rfl
 rotate_left
 ·simp only [Act.put, List.setIfInBounds_toArray, List.set_cons_zero, List.set_cons_succ, i64_w, i32_w]
  rfl
 refine pure_ (i := 7) (N := some 12) (v := ?_) (a' := ?_) #[true, false, true, false, false, true, false, true, false, false, false, false, false, false] rfl rfl (any_of HT_.out (by kernel_rfl)) (fun _ _ _ h => h) (Or.inl ⟨by rfl, ?_⟩) ?_ ?_
 rotate_left
 ·intro w'
  go_simp
  with_reducible rfl
 rotate_left
 ·simp only [Act.put, List.setIfInBounds_toArray, List.set_cons_zero, List.set_cons_succ, i64_w, i32_w]
  rfl
 refine take_ (i := 1) (N := some 6) (v := ?_) (a' := ?_) #[true, true, true, false, false, true, false, true, false, false, false, false, false, false] rfl rfl (take_ofW HT_.out HW_.out (by kernel_rfl)) (fun _ _ _ h => h) (Or.inl ⟨by rfl, ?_⟩) hHeld ?_ ?_
 rotate_left
 ·rintro w' ⟨s0, s1, s2, s3, s4, s5, s6, s7⟩
  go_simp
  with_reducible rfl
 rotate_left
 ·simp only [Act.put, List.setIfInBounds_toArray, List.set_cons_zero, List.set_cons_succ, i64_w, i32_w]
  rfl
 refine take_ (i := 3) (N := some 8) (v := ?_) (a' := ?_) #[true, true, true, true, false, true, false, true, false, false, false, false, false, false] rfl rfl (take_ofW HT_.out HW_.out (by kernel_rfl)) (fun _ _ _ h => h) (Or.inl ⟨by rfl, ?_⟩) hHeld ?_ ?_
 rotate_left
 ·rintro w' ⟨s0, s1, s2, s3, s4, s5, s6, s7⟩
  go_simp
  with_reducible rfl
 rotate_left
 ·simp only [Act.put, List.setIfInBounds_toArray, List.set_cons_zero, List.set_cons_succ, i64_w, i32_w]
  rfl
 refine take_ (i := 6) (N := some 11) (v := ?_) (a' := ?_) #[true, true, true, true, false, true, true, true, false, false, false, false, false, false] rfl rfl (take_ofW HT_.out HW_.out (by kernel_rfl)) (fun _ _ _ h => h) (Or.inl ⟨by rfl, ?_⟩) hHeld ?_ ?_
 rotate_left
 ·rintro w' ⟨s0, s1, s2, s3, s4, s5, s6, s7⟩
  go_simp
  with_reducible rfl
 rotate_left
 ·simp only [Act.put, List.setIfInBounds_toArray, List.set_cons_zero, List.set_cons_succ, i64_w, i32_w]
  rfl
 refine take_ (i := 8) (N := some 13) (v := ?_) (a' := ?_) #[true, true, true, true, false, true, true, true, true, false, false, false, false, false] rfl rfl (take_ofW HT_.out HW_.out (by kernel_rfl)) (fun _ _ _ h => h) (Or.inl ⟨by rfl, ?_⟩) hHeld ?_ ?_
 rotate_left
 ·rintro w' ⟨s0, s1, s2, s3, s4, s5, s6, s7⟩
  go_simp
  with_reducible rfl
 rotate_left
 ·simp only [Act.put, List.setIfInBounds_toArray, List.set_cons_zero, List.set_cons_succ, i64_w, i32_w]
  rfl
 refine one_ (i := 4) (N := some 9) #[true, true, true, true, true, true, true, true, true, false, false, false, false, false] rfl rfl (one_of HT_.out (by kernel_rfl)) (by decide) (fun K hK => ?_)
 refine goes_ Try.func77 (by kernel_rfl) rfl #[.int .i64 a0_0, .int .i64 a1_0] (by rfl) rfl rfl (by (try simp only [List.map_toArray, List.map_cons, List.map_nil]); first | done | rfl | (simp only [List.length_drop, List.length_take]; rfl)) ?_
 with_reducible refine (cmp_Compare_77.calls a0_0 a1_0 t103 _ A3.out).mono ?_
 rintro e w' ⟨rfl, ⟨nd, rfl⟩⟩
 refine ⟨_, rfl, ?_⟩
 refine hK.out _ _ ⟨(blk_cell BK101.out 0).trans rfl, (blk_cell BK101.out 1).trans rfl, (blk_cell BK101.out 2).trans rfl, (blk_cell BK101.out 3).trans rfl, (blk_cell BK102.out 0).trans rfl, (blk_cell BK102.out 1).trans rfl, (blk_cell BK102.out 2).trans rfl, (blk_cell BK102.out 3).trans rfl⟩ (fun hHeld => ?_)
 clear hK K
 refine norm_ (a' := ?_) ?_ ?_
 rotate_left
 ·show Act.put _ (some 9) _ = _
  simp only [Act.put, List.setIfInBounds_toArray, List.set_cons_zero, List.set_cons_succ, i64_w, i32_w]
  rfl
 refine one_ (i := 9) (N := some 14) #[true, true, true, true, true, true, true, true, true, true, false, false, false, false] rfl rfl (one_of HT_.out (by kernel_rfl)) (by decide) (fun K hK => ?_)
 refine goes_ Try.func77 (by kernel_rfl) rfl #[.int .i64 a1_3, .int .i64 a0_3] (by rfl) rfl rfl (by (try simp only [List.map_toArray, List.map_cons, List.map_nil]); first | done | rfl | (simp only [List.length_drop, List.length_take]; rfl)) ?_
 with_reducible refine (cmp_Compare_77.calls a1_3 a0_3 t104 _ A4.out).mono ?_
 rintro e w' ⟨rfl, ⟨nd, rfl⟩⟩
 refine ⟨_, rfl, ?_⟩
 refine hK.out _ _ ⟨(blk_cell BK101.out 0).trans rfl, (blk_cell BK101.out 1).trans rfl, (blk_cell BK101.out 2).trans rfl, (blk_cell BK101.out 3).trans rfl, (blk_cell BK102.out 0).trans rfl, (blk_cell BK102.out 1).trans rfl, (blk_cell BK102.out 2).trans rfl, (blk_cell BK102.out 3).trans rfl⟩ (fun hHeld => ?_)
 clear hK K
 refine norm_ (a' := ?_) ?_ ?_
 rotate_left
 ·show Act.put _ (some 14) _ = _
  simp only [Act.put, List.setIfInBounds_toArray, List.set_cons_zero, List.set_cons_succ, i64_w, i32_w]
  rfl
 refine one_ (i := 10) (N := some 15) #[true, true, true, true, true, true, true, true, true, true, true, false, false, false] rfl rfl (one_of HT_.out (by kernel_rfl)) (by decide) (fun K hK => ?_)
 refine Kd.R_lit_step (Kd.int .i64) _ 3 ?hg (N := 15) ?hd (xs := ([t103, t104] : List Int)) (inner := [.int .i64 t103, .int .i64 t104]) (ok := fun _ => True) (okp := fun _ => True) ?hr ?hp (fun _ hk => hk) trivial (Below.refl _ _) (Nat.le_refl _) (by simp) ?_; (case hd => rfl); (case hg => rfl); (case hr => first | (go_simp; done) | (go_simp; rfl)); (case hp => exact (Reps.one (show Kd.M (Kd.int .i64) _ _ _ t103 [.int .i64 t103] from rfl) (Reps.one (show Kd.M (Kd.int .i64) _ _ _ t104 [.int .i64 t104] from rfl) (Reps.none _ _))))
 intro v106 w9 ho10 hb hg_ hnew_
 clear hg_ hnew_
 (first | rw [← Ny105.out] at ho10 | (simp only [Int.reduceToNat] at ho10; rw [← Ny105.out] at ho10))
 have n0_ := Aside0.mk (Kd.R_lower ho10 (below_size (by repeat (first | (with_reducible first | exact HB.out | apply below_alloc | apply pw_below_drewN | apply below_drew1 | refine below_set ?_ GE101.out | refine below_set ?_ GE102.out) | exact HB.out))))
 have n1_ := Aside0.mk (blk_below (g := gb101) (o := .cells #[.int .i64 a0_0, .int .i64 a0_1, .int .i64 a0_2, .int .i64 a0_3] 29 (0, 0)) (by (with_reducible repeat (first | refine blk_drewN ?_ _ | refine blk_drew ?_ | refine blk_alloc ?_ _)); exact BK101.out) hb)
 have n2_ := Aside0.mk (blk_below (g := gb102) (o := .cells #[.int .i64 a1_0, .int .i64 a1_1, .int .i64 a1_2, .int .i64 a1_3] 29 (0, 0)) (by (with_reducible repeat (first | refine blk_drewN ?_ _ | refine blk_drew ?_ | refine blk_alloc ?_ _)); exact BK102.out) hb)
 have n3_ := Aside0.mk (below_step (by repeat (first | (with_reducible first | exact HB.out | apply below_alloc | apply pw_below_drewN | apply below_drew1 | refine below_set ?_ GE101.out | refine below_set ?_ GE102.out) | exact HB.out)) hb)
 clear BK101
 clear BK102
 clear HB
 have HO107 := n0_
 have BK101 := n1_
 have BK102 := n2_
 have HB := n3_
 clear n0_ n1_ n2_ n3_
 clear hb ho10
 obtain ⟨Ao11, co11, eo11⟩ := Kd.R_slice HO107.out
 (first | subst eo11 | (injection eo11 with f1_ f2_ f3_; have f4_ := f1_.symm; have f5_ := f3_.symm; clear f1_ f2_ f3_; subst f4_; subst f5_))
 refine hK.out _ _ ⟨(blk_cell BK101.out 0).trans rfl, (blk_cell BK101.out 1).trans rfl, (blk_cell BK101.out 2).trans rfl, (blk_cell BK101.out 3).trans rfl, (blk_cell BK102.out 0).trans rfl, (blk_cell BK102.out 1).trans rfl, (blk_cell BK102.out 2).trans rfl, (blk_cell BK102.out 3).trans rfl⟩ (fun hHeld => ?_)
 clear hK K
 refine norm_ (a' := ?_) ?_ ?_
 rotate_left
 ·show Act.put _ (some 15) _ = _
  simp only [Act.put, List.setIfInBounds_toArray, List.set_cons_zero, List.set_cons_succ, i64_w, i32_w]
  rfl
 refine one_ (i := 11) (N := some 16) #[true, true, true, true, true, true, true, true, true, true, true, true, false, false] rfl rfl (one_of HT_.out (by kernel_rfl)) (by decide) (fun K hK => ?_)
 refine goes_ Try.func76 (by kernel_rfl) rfl #[.slice Ao11 y105.length co11] (by rfl) rfl rfl (by (try simp only [List.map_toArray, List.map_cons, List.map_nil]); first | done | rfl | (simp only [List.length_drop, List.length_take]; rfl)) ?_
 with_reducible refine (cmp_Or_76.calls k _ _ y105 t108 _ ?side1 ?side2 A5.out).mono ?_
 (case side1 => repeat (first | exact (Kd.R_reads' HO107.out).2.2 | (with_reducible refine Kd.C_alloc ?_ _) | (with_reducible refine Kd.C_drewN ?_ _) | (with_reducible refine Kd.C_drew ?_)))
 (case side2 => exact (Kd.R_reads' HO107.out).2.1)
 rintro e w' ⟨rfl, ⟨nd, rfl⟩⟩
 refine ⟨_, rfl, ?_⟩
 refine hK.out _ _ ⟨(blk_cell BK101.out 0).trans rfl, (blk_cell BK101.out 1).trans rfl, (blk_cell BK101.out 2).trans rfl, (blk_cell BK101.out 3).trans rfl, (blk_cell BK102.out 0).trans rfl, (blk_cell BK102.out 1).trans rfl, (blk_cell BK102.out 2).trans rfl, (blk_cell BK102.out 3).trans rfl⟩ (fun hHeld => ?_)
 clear hK K
 refine norm_ (a' := ?_) ?_ ?_
 rotate_left
 ·show Act.put _ (some 16) _ = _
  simp only [Act.put, List.setIfInBounds_toArray, List.set_cons_zero, List.set_cons_succ, i64_w, i32_w]
  rfl
 refine pure_ (i := 12) (N := some 17) (v := ?_) (a' := ?_) #[true, true, true, true, true, true, true, true, true, true, true, true, true, false] rfl rfl (any_of HT_.out (by kernel_rfl)) (fun _ _ _ h => h) (Or.inl ⟨by rfl, ?_⟩) ?_ ?_
 rotate_left
 ·intro w'
  go_simp
  with_reducible rfl
 rotate_left
 ·simp only [Act.put, List.setIfInBounds_toArray, List.set_cons_zero, List.set_cons_succ, i64_w, i32_w]
  rfl
 refine pure_ (i := 13) (N := some 4) (v := ?_) (a' := ?_) #[true, true, true, true, true, true, true, true, true, true, true, true, true, true] rfl rfl (any_of HT_.out (by kernel_rfl)) (fun _ _ _ h => h) (Or.inl ⟨by rfl, ?_⟩) ?_ ?_
 rotate_left
 ·intro w'
  go_simp
  with_reducible rfl
 rotate_left
 ·simp only [Act.put, List.setIfInBounds_toArray, List.set_cons_zero, List.set_cons_succ, i64_w, i32_w]
  rfl
 refine done_ (done_of HT_.out (by kernel_rfl)) ?_
 try go_wp2
 go_ret
 exact ⟨by first | rfl | (simp [errW_none, errW_some] <;> rfl) | (simp [*, errW_none, errW_some] <;> rfl), by repeat (first | (with_reducible first | exact HB.out | apply below_alloc | apply pw_below_drewN | apply below_drew1 | refine below_set ?_ GE101.out | refine below_set ?_ GE102.out) | exact HB.out)⟩
end Go.Proofs.Ytiklpefckadgdaa.P
noncomputable section
namespace Go.Proofs.Ytiklpefckadgdaa.P
open Go.RowKit Go.Proofs.YtiklpefckadgdaaW.PrintWords Go.Proofs.YtiklpefckadgdaaW.PrintLast Go.Proofs.YtiklpefckadgdaaW.PrintMore
attribute [local go_sem] max2_int min2_int max_two min_two max_three min_three max_four min_four   -- for this text's walks alone
set_option linter.unusedVariables false
set_option linter.unusedSimpArgs false
def bridge_between.f (a0 : Int) (a1 : Int) (a2 : Int) : Option (Bool) := if a0 ≥ a1 then (some (decide (a0 ≤ a2))) else (some false)
set_option maxHeartbeats 8000000 in
set_option maxRecDepth 100000 in
theorem bridge_between.calls (a0 : Int) (a1 : Int) (a2 : Int) (r : Bool) (w : World) (h : bridge_between.f a0 a1 a2 = some r) :
  Calls Try.prog 44 #[.int .i64 a0, .int .i64 a1, .int .i64 a2] w fun e w' => e = .returned (.bool r) ∧ Drawn0 w w' := by
 have H : (if a0 ≥ a1 then (some (decide (a0 ≤ a2))) else (some false)) = some r := h
 clear h
 by_cases c4 : a0 ≥ a1
 ·rw [if_pos c4] at H
  have c4b0 : decide (a1 ≤ a0) = true := decide_eq_true c4
  clear c4
  obtain rfl := Option.some.inj H
  go_enter Try.func44, Try.ntmps44
  go_wp2
  go_ret
  exact ⟨by first | rfl | (simp; done) | (simp [*]; done), by repeat (first | exact Drawn0.refl _ | apply Drawn0.step)⟩
 ·rw [if_neg c4] at H
  have c4b0 : decide (a1 ≤ a0) = false := decide_eq_false c4
  clear c4
  obtain rfl := Option.some.inj H
  go_enter Try.func44, Try.ntmps44
  go_wp2
  go_ret
  exact ⟨by first | rfl | (simp; done) | (simp [*]; done), by repeat (first | exact Drawn0.refl _ | apply Drawn0.step)⟩
end Go.Proofs.Ytiklpefckadgdaa.P
noncomputable section
namespace Go.Proofs.Ytiklpefckadgdaa.P
open Go.RowKit Go.Proofs.YtiklpefckadgdaaW.PrintWords Go.Proofs.YtiklpefckadgdaaW.PrintLast Go.Proofs.YtiklpefckadgdaaW.PrintMore
attribute [local go_sem] max2_int min2_int max_two min_two max_three min_three max_four min_four   -- for this text's walks alone
set_option linter.unusedVariables false
set_option linter.unusedSimpArgs false
mutual
def bridge_Check.j0 : Nat → Int → Bool → List Int → List Int → List Int → Int → Int → Int → Option (Int)
 | 0, _, _, _, _, _, _, _, _ => none
 | k + 1, x3, x9, x102000, x102001, x102002, x102003, x102004, x102005 => if x9 = true then (some 6) else (if (x102001.length : Int) = x3 then (bridge_Check.j1 k ((x102002.length : Int) != x3) x102000 x102001 x102002 x102003 x102004 x102005) else (bridge_Check.j1 k true x102000 x102001 x102002 x102003 x102004 x102005))
def bridge_Check.j1 : Nat → Bool → List Int → List Int → List Int → Int → Int → Int → Option (Int)
 | 0, _, _, _, _, _, _, _ => none
 | k + 1, x16, x102000, x102001, x102002, x102003, x102004, x102005 => if x16 = true then (some 17) else ((bridge_between.f x102003 0 1000).bind fun t102 => (if t102 = true then (if x102004 < 1 then (some 2) else (if x102004 > 4 then (some 2) else ((bridge_between.f x102005 0 4096).bind fun t103 => (if t103 = true then (bridge_Check.l0 k x102000 (x102000.length : Int) 0 x102000 x102001 x102002 x102003 x102004 x102005) else (some 2))))) else (some 2)))
def bridge_Check.l0 : Nat → List Int → Int → Int → List Int → List Int → List Int → Int → Int → Int → Option (Int)
 | 0, _, _, _, _, _, _, _, _, _ => none
 | k + 1, x51, x52, x53, x102000, x102001, x102002, x102003, x102004, x102005 => if x53 < x52 then (if 0 ≤ x53 then (if x53 < (x51.length : Int) then ((bridge_between.f (rd x51 x53) 100 131072).bind fun t105 => (if t105 = true then (if x53 < (x102001.length : Int) then ((bridge_between.f (rd x102001 x53) 1 1073741824).bind fun t107 => (if t107 = true then (if x53 < (x102002.length : Int) then ((bridge_between.f (rd x102002 x53) 1 1073741824).bind fun t109 => (if t109 = true then (bridge_Check.l0 k x51 x52 (wrap64 (x53 + 1)) x102000 x102001 x102002 x102003 x102004 x102005) else (some 2))) else (none)) else (some 2))) else (none)) else (some 2))) else (none)) else (none)) else (some 0)
end
def bridge_Check.f (k : Nat) (l0_0 : List Int) (l0_1 : List Int) (l0_2 : List Int) (a0_3 : Int) (a0_4 : Int) (a0_5 : Int) : Option (Int) := if (l0_0.length : Int) < 1 then (bridge_Check.j0 k (l0_0.length : Int) true l0_0 l0_1 l0_2 a0_3 a0_4 a0_5) else (bridge_Check.j0 k (l0_0.length : Int) (decide ((l0_0.length : Int) > 6)) l0_0 l0_1 l0_2 a0_3 a0_4 a0_5)
theorem bridge_Check.mono_l : ∀ k, (∀ y0 y1 y2 y3 y4 y5 y6 y7, LeO (bridge_Check.j0 k y0 y1 y2 y3 y4 y5 y6 y7) (bridge_Check.j0 (k + 1) y0 y1 y2 y3 y4 y5 y6 y7)) ∧ (∀ y0 y1 y2 y3 y4 y5 y6, LeO (bridge_Check.j1 k y0 y1 y2 y3 y4 y5 y6) (bridge_Check.j1 (k + 1) y0 y1 y2 y3 y4 y5 y6)) ∧ (∀ y0 y1 y2 y3 y4 y5 y6 y7 y8, LeO (bridge_Check.l0 k y0 y1 y2 y3 y4 y5 y6 y7 y8) (bridge_Check.l0 (k + 1) y0 y1 y2 y3 y4 y5 y6 y7 y8))
 | 0 => ⟨fun _ _ _ _ _ _ _ _ r h => by simp [bridge_Check.j0] at h, fun _ _ _ _ _ _ _ r h => by simp [bridge_Check.j1] at h, fun _ _ _ _ _ _ _ _ _ r h => by simp [bridge_Check.l0] at h⟩
 | k + 1 => by
  obtain ⟨ih0, ih1, ih2⟩ := bridge_Check.mono_l k
  refine ⟨?_, ?_, ?_⟩
  ·intro y0 y1 y2 y3 y4 y5 y6 y7
   unfold bridge_Check.j0
   repeat' first
   | (with_reducible exact ih0 _ _ _ _ _ _ _ _)
   | (with_reducible exact ih1 _ _ _ _ _ _ _)
   | (with_reducible exact ih2 _ _ _ _ _ _ _ _ _)
   | (with_reducible exact LeO.refl _)
   | (with_reducible exact LeO.none _)
   | (with_reducible refine LeO.ite ?_ ?_)
   | (with_reducible refine LeO.bind ?_ (fun _ => ?_))
   | exact ih0 _ _ _ _ _ _ _ _
   | exact ih1 _ _ _ _ _ _ _
   | exact ih2 _ _ _ _ _ _ _ _ _
   | exact LeO.none _
   | refine LeO.ite ?_ ?_
   | refine LeO.bind ?_ (fun _ => ?_)
  ·intro y0 y1 y2 y3 y4 y5 y6
   unfold bridge_Check.j1
   repeat' first
   | (with_reducible exact ih0 _ _ _ _ _ _ _ _)
   | (with_reducible exact ih1 _ _ _ _ _ _ _)
   | (with_reducible exact ih2 _ _ _ _ _ _ _ _ _)
   | (with_reducible exact LeO.refl _)
   | (with_reducible exact LeO.none _)
   | (with_reducible refine LeO.ite ?_ ?_)
   | (with_reducible refine LeO.bind ?_ (fun _ => ?_))
   | exact ih0 _ _ _ _ _ _ _ _
   | exact ih1 _ _ _ _ _ _ _
   | exact ih2 _ _ _ _ _ _ _ _ _
   | exact LeO.none _
   | refine LeO.ite ?_ ?_
   | refine LeO.bind ?_ (fun _ => ?_)
  ·intro y0 y1 y2 y3 y4 y5 y6 y7 y8
   unfold bridge_Check.l0
   repeat' first
   | (with_reducible exact ih0 _ _ _ _ _ _ _ _)
   | (with_reducible exact ih1 _ _ _ _ _ _ _)
   | (with_reducible exact ih2 _ _ _ _ _ _ _ _ _)
   | (with_reducible exact LeO.refl _)
   | (with_reducible exact LeO.none _)
   | (with_reducible refine LeO.ite ?_ ?_)
   | (with_reducible refine LeO.bind ?_ (fun _ => ?_))
   | exact ih0 _ _ _ _ _ _ _ _
   | exact ih1 _ _ _ _ _ _ _
   | exact ih2 _ _ _ _ _ _ _ _ _
   | exact LeO.none _
   | refine LeO.ite ?_ ?_
   | refine LeO.bind ?_ (fun _ => ?_)
theorem bridge_Check.mono : ∀ a0 a1 a2 a3 a4 a5 k, LeO (bridge_Check.f k a0 a1 a2 a3 a4 a5) (bridge_Check.f (k + 1) a0 a1 a2 a3 a4 a5) := by
 intro a0 a1 a2 a3 a4 a5 k
 obtain ⟨ih0, ih1, ih2⟩ := bridge_Check.mono_l k
 unfold bridge_Check.f
 repeat' first
   | (with_reducible exact ih0 _ _ _ _ _ _ _ _)
   | (with_reducible exact ih1 _ _ _ _ _ _ _)
   | (with_reducible exact ih2 _ _ _ _ _ _ _ _ _)
   | (with_reducible exact LeO.refl _)
   | (with_reducible exact LeO.none _)
   | (with_reducible refine LeO.ite ?_ ?_)
   | (with_reducible refine LeO.bind ?_ (fun _ => ?_))
   | exact ih0 _ _ _ _ _ _ _ _
   | exact ih1 _ _ _ _ _ _ _
   | exact ih2 _ _ _ _ _ _ _ _ _
   | exact LeO.none _
   | refine LeO.ite ?_ ?_
   | refine LeO.bind ?_ (fun _ => ?_)
set_option maxHeartbeats 8000000 in
set_option maxRecDepth 100000 in
theorem bridge_Check.calls (k : Nat) (A0_0 : Option Addr) (c0_0 : Nat) (l0_0 : List Int) (A0_1 : Option Addr) (c0_1 : Nat) (l0_1 : List Int) (A0_2 : Option Addr) (c0_2 : Nat) (l0_2 : List Int) (a0_3 : Int) (a0_4 : Int) (a0_5 : Int) (r : Int) (w : World) (hr0_0 : Kd.C (Kd.int .i64) w A0_0 l0_0.length l0_0) (hc0_0 : l0_0.length ≤ c0_0) (hr0_1 : Kd.C (Kd.int .i64) w A0_1 l0_1.length l0_1) (hc0_1 : l0_1.length ≤ c0_1) (hr0_2 : Kd.C (Kd.int .i64) w A0_2 l0_2.length l0_2) (hc0_2 : l0_2.length ≤ c0_2) (h : bridge_Check.f k l0_0 l0_1 l0_2 a0_3 a0_4 a0_5 = some r) :
  Calls Try.prog 28 #[.agg #[.slice A0_0 l0_0.length c0_0, .slice A0_1 l0_1.length c0_1, .slice A0_2 l0_2.length c0_2, .int .i64 a0_3, .int .i64 a0_4, .int .i64 a0_5]] w fun e w' => e = .returned (.int .i64 r) ∧ Below w.heap.size w w' := by
 have hu24 := Try.underlying24
 have HR0_0 := Aside0.mk hr0_0
 have HC0_0 := Aside0.mk hc0_0
 clear hr0_0 hc0_0
 have HR0_1 := Aside0.mk hr0_1
 have HC0_1 := Aside0.mk hc0_1
 clear hr0_1 hc0_1
 have HR0_2 := Aside0.mk hr0_2
 have HC0_2 := Aside0.mk hc0_2
 clear hr0_2 hc0_2
 have HB := Aside0.mk (Below.refl w.heap.size w)
 have H : (if (l0_0.length : Int) < 1 then (bridge_Check.j0 k (l0_0.length : Int) true l0_0 l0_1 l0_2 a0_3 a0_4 a0_5) else (bridge_Check.j0 k (l0_0.length : Int) (decide ((l0_0.length : Int) > 6)) l0_0 l0_1 l0_2 a0_3 a0_4 a0_5)) = some r := h
 clear h
 have HC2 := Aside0.mk H
 clear H
 go_enter Try.func28, Try.ntmps28
 go_upto_region 2 with (first | ((with_reducible refine gate_dst (N := 1) rfl ?_); (try (refine gate_guard (by rfl) ?_; dsimp only)); refine box_event ?hg (N := 1) ?hd (cs := #[.slice A0_0 l0_0.length c0_0, .slice A0_1 l0_1.length c0_1, .slice A0_2 l0_2.length c0_2, .int .i64 a0_3, .int .i64 a0_4, .int .i64 a0_5]) (t := 24) ?hr ?_; (case hd => rfl); (case hg => rfl); (case hr => first | (go_simp; done) | (go_simp; rfl)); intro gb101 hg w3 hbox hb; have n0_ := Aside0.mk (below_step (by repeat (first | (with_reducible first | exact HB.out | apply below_alloc | apply pw_below_drewN | apply below_drew1) | exact HB.out)) hb); have n1_ := Aside0.mk (hbox); have n2_ := Aside0.mk ((by rw [hg]; exact (below_size (by repeat (first | (with_reducible first | exact HB.out | apply below_alloc | apply pw_below_drewN | apply below_drew1) | exact HB.out))) : w.heap.size ≤ gb101)); have n3_ := Aside0.mk ((by rw [hg]; exact (below_size (by repeat (first | (with_reducible first | exact HB.out | apply below_alloc | apply pw_below_drewN | apply below_drew1) | exact HB.out))) : w.heap.size ≤ gb101)); clear HB; have HB := n0_; have BK101 := n1_; have GW101 := n2_; have GE101 := n3_; clear n0_ n1_ n2_ n3_; clear hb hbox hg; have hcz4_0 : w3.cell? ⟨gb101, 0, none⟩ = some (.slice A0_0 l0_0.length c0_0) := (blk_cell BK101.out 0).trans rfl; have hcz4_1 : w3.cell? ⟨gb101, 1, none⟩ = some (.slice A0_1 l0_1.length c0_1) := (blk_cell BK101.out 1).trans rfl; have hcz4_2 : w3.cell? ⟨gb101, 2, none⟩ = some (.slice A0_2 l0_2.length c0_2) := (blk_cell BK101.out 2).trans rfl; have hcz4_3 : w3.cell? ⟨gb101, 3, none⟩ = some (.int .i64 a0_3) := (blk_cell BK101.out 3).trans rfl; have hcz4_4 : w3.cell? ⟨gb101, 4, none⟩ = some (.int .i64 a0_4) := (blk_cell BK101.out 4).trans rfl; have hcz4_5 : w3.cell? ⟨gb101, 5, none⟩ = some (.int .i64 a0_5) := (blk_cell BK101.out 5).trans rfl; have hfz4_0 := blk_frozen BK101.out 0; have hfz4_1 := blk_frozen BK101.out 1; have hfz4_2 := blk_frozen BK101.out 2; have hfz4_3 := blk_frozen BK101.out 3; have hfz4_4 := blk_frozen BK101.out 4; have hfz4_5 := blk_frozen BK101.out 5))
 (try simp only [Act.put, List.setIfInBounds_toArray, List.set_cons_zero, List.set_cons_succ])
 go_cut [9] (fun v9 wc => ∃ (kq : Nat) (x9_1 : Bool), v9 = .bool x9_1 ∧ Aside0 (bridge_Check.j0 kq (l0_0.length : Int) x9_1 l0_0 l0_1 l0_2 a0_3 a0_4 a0_5 = some r) ∧ Aside0 (kq ≤ k) ∧ Aside0 (wc.heap[gb101]? = some (.cells #[(.slice A0_0 l0_0.length c0_0), (.slice A0_1 l0_1.length c0_1), (.slice A0_2 l0_2.length c0_2), .int .i64 a0_3, .int .i64 a0_4, .int .i64 a0_5] 24 (0, 0))) ∧ Aside0 (Below w.heap.size w wc))
 case first =>
  have H := HC2.out
  clear HC2
  by_cases c5 : (l0_0.length : Int) < 1
  ·rw [if_pos c5] at H
   have c5b0 : decide ((l0_0.length : Int) < 1) = true := decide_eq_true c5
   have c5b1 : decide (l0_0.length < 1) = true := decide_eq_true (by omega)
   clear c5
   (first | rw [c5b0] | (simp only [i64_w, i32_w]; rw [c5b0]) | skip)
   have H' := Aside0.mk H
   clear H
   go_wp2
   go_meet
   case rel => exact ⟨_, (true), (by first | rfl | (simp; done) | (simp [*]; done)), H', ⟨by first | omega | exact Nat.le_refl _⟩, ⟨by (with_reducible repeat (first | refine blk_drewN ?_ _ | refine blk_drew ?_ | refine blk_alloc ?_ _)); exact BK101.out⟩, ⟨by repeat (first | (with_reducible first | exact HB.out | apply below_alloc | apply pw_below_drewN | apply below_drew1 | refine below_set ?_ GE101.out) | exact HB.out)⟩⟩
  ·rw [if_neg c5] at H
   have c5b0 : decide ((l0_0.length : Int) < 1) = false := decide_eq_false c5
   have c5b1 : decide (l0_0.length < 1) = false := decide_eq_false (by omega)
   clear c5
   (first | rw [c5b0] | (simp only [i64_w, i32_w]; rw [c5b0]) | skip)
   have H' := Aside0.mk H
   clear H
   go_wp2
   go_meet
   case rel => exact ⟨_, (decide ((l0_0.length : Int) > 6)), (by first | rfl | (simp; done) | (simp [*]; done)), H', ⟨by first | omega | exact Nat.le_refl _⟩, ⟨by (with_reducible repeat (first | refine blk_drewN ?_ _ | refine blk_drew ?_ | refine blk_alloc ?_ _)); exact BK101.out⟩, ⟨by repeat (first | (with_reducible first | exact HB.out | apply below_alloc | apply pw_below_drewN | apply below_drew1 | refine below_set ?_ GE101.out) | exact HB.out)⟩⟩
 case rest =>
  clear HC2
  try clear c2
  try clear p2
  try clear c5
  try clear c5b0
  try clear c5b1
  try clear hcz4_0
  try clear hcz4_1
  try clear hcz4_2
  try clear hcz4_3
  try clear hcz4_4
  try clear hcz4_5
  try clear hfz4_0
  try clear hfz4_1
  try clear hfz4_2
  try clear hfz4_3
  try clear hfz4_4
  try clear hfz4_5
  obtain ⟨kq, x9_1, rfl, HA, HJ1, BK101, HB⟩ := hcut
  cases kq with
  | zero => exact absurd HA.out (by simp [bridge_Check.j0])
  | succ kj1 =>
   have H := HA.out
   clear HA
   simp only [bridge_Check.j0] at H
   by_cases c6 : x9_1 = true
   ·subst c6
    have H1 : (some 6) = some r := by rw [if_pos rfl] at H; exact H
    clear H
    have H := H1
    clear H1
    obtain rfl := Option.some.inj H
    go_wp2
    go_ret
    exact ⟨by first | rfl | (simp [errW_none, errW_some] <;> rfl) | (simp [*, errW_none, errW_some] <;> rfl), by repeat (first | (with_reducible first | exact HB.out | apply below_alloc | apply pw_below_drewN | apply below_drew1 | refine below_set ?_ GE101.out) | exact HB.out)⟩
   ·replace c6 := Bool.eq_false_iff.mpr c6
    subst c6
    have H1 : (if (l0_1.length : Int) = (l0_0.length : Int) then (bridge_Check.j1 kj1 ((l0_2.length : Int) != (l0_0.length : Int)) l0_0 l0_1 l0_2 a0_3 a0_4 a0_5) else (bridge_Check.j1 kj1 true l0_0 l0_1 l0_2 a0_3 a0_4 a0_5)) = some r := by rw [if_neg (show ¬ (false = true) by decide)] at H; exact H
    clear H
    have H := H1
    clear H1
    have HC7 := Aside0.mk H
    clear H
    go_upto_region 4 with (fail)
    go_cut [16] (fun v16 wc => ∃ (kq : Nat) (x16_6 : Bool), v16 = .bool x16_6 ∧ Aside0 (bridge_Check.j1 kq x16_6 l0_0 l0_1 l0_2 a0_3 a0_4 a0_5 = some r) ∧ Aside0 (kq ≤ kj1) ∧ Aside0 (wc.heap[gb101]? = some (.cells #[(.slice A0_0 l0_0.length c0_0), (.slice A0_1 l0_1.length c0_1), (.slice A0_2 l0_2.length c0_2), .int .i64 a0_3, .int .i64 a0_4, .int .i64 a0_5] 24 (0, 0))) ∧ Aside0 (Below w.heap.size w wc))
    case first =>
     have H := HC7.out
     clear HC7
     by_cases c8 : (l0_1.length : Int) = (l0_0.length : Int)
     ·rw [if_pos c8] at H
      have c8b0 : ((l0_1.length : Int) == (l0_0.length : Int)) = true := beq_iff_eq.mpr c8
      have c8b1 : ((l0_1.length : Int) != (l0_0.length : Int)) = false := bne_eq_false_iff_eq.mpr c8
      have c8b2 : (l0_1.length == l0_0.length) = true := by first | simpa using c8 | (simp at c8 ⊢; omega)
      clear c8
      (first | rw [c8b0] | (simp only [i64_w, i32_w]; rw [c8b0]) | skip)
      have H' := Aside0.mk H
      clear H
      have hcz9_0 : wc.cell? ⟨gb101, 0, none⟩ = some (.slice A0_0 l0_0.length c0_0) := (blk_cell BK101.out 0).trans rfl
      have hcz9_1 : wc.cell? ⟨gb101, 1, none⟩ = some (.slice A0_1 l0_1.length c0_1) := (blk_cell BK101.out 1).trans rfl
      have hcz9_2 : wc.cell? ⟨gb101, 2, none⟩ = some (.slice A0_2 l0_2.length c0_2) := (blk_cell BK101.out 2).trans rfl
      have hcz9_3 : wc.cell? ⟨gb101, 3, none⟩ = some (.int .i64 a0_3) := (blk_cell BK101.out 3).trans rfl
      have hcz9_4 : wc.cell? ⟨gb101, 4, none⟩ = some (.int .i64 a0_4) := (blk_cell BK101.out 4).trans rfl
      have hcz9_5 : wc.cell? ⟨gb101, 5, none⟩ = some (.int .i64 a0_5) := (blk_cell BK101.out 5).trans rfl
      have hfz9_0 := blk_frozen BK101.out 0
      have hfz9_1 := blk_frozen BK101.out 1
      have hfz9_2 := blk_frozen BK101.out 2
      have hfz9_3 := blk_frozen BK101.out 3
      have hfz9_4 := blk_frozen BK101.out 4
      have hfz9_5 := blk_frozen BK101.out 5
      go_wp2
      go_meet
      case rel => exact ⟨_, (((l0_2.length : Int) != (l0_0.length : Int))), (by first | rfl | (simp; done) | (simp [*]; done)), H', ⟨by have := HJ1.out; first | omega | exact Nat.le_refl _⟩, ⟨by (with_reducible repeat (first | refine blk_drewN ?_ _ | refine blk_drew ?_ | refine blk_alloc ?_ _)); exact BK101.out⟩, ⟨by repeat (first | (with_reducible first | exact HB.out | apply below_alloc | apply pw_below_drewN | apply below_drew1 | refine below_set ?_ GE101.out) | exact HB.out)⟩⟩
     ·rw [if_neg c8] at H
      have c8b0 : ((l0_1.length : Int) == (l0_0.length : Int)) = false := beq_eq_false_iff_ne.mpr c8
      have c8b1 : ((l0_1.length : Int) != (l0_0.length : Int)) = true := bne_iff_ne.mpr c8
      have c8b2 : (l0_1.length == l0_0.length) = false := by first | simpa using c8 | (simp at c8 ⊢; omega)
      (first | rw [c8b0] | (simp only [i64_w, i32_w]; rw [c8b0]) | skip)
      have H' := Aside0.mk H
      clear H
      have hcz10_0 : wc.cell? ⟨gb101, 0, none⟩ = some (.slice A0_0 l0_0.length c0_0) := (blk_cell BK101.out 0).trans rfl
      have hcz10_1 : wc.cell? ⟨gb101, 1, none⟩ = some (.slice A0_1 l0_1.length c0_1) := (blk_cell BK101.out 1).trans rfl
      have hcz10_2 : wc.cell? ⟨gb101, 2, none⟩ = some (.slice A0_2 l0_2.length c0_2) := (blk_cell BK101.out 2).trans rfl
      have hcz10_3 : wc.cell? ⟨gb101, 3, none⟩ = some (.int .i64 a0_3) := (blk_cell BK101.out 3).trans rfl
      have hcz10_4 : wc.cell? ⟨gb101, 4, none⟩ = some (.int .i64 a0_4) := (blk_cell BK101.out 4).trans rfl
      have hcz10_5 : wc.cell? ⟨gb101, 5, none⟩ = some (.int .i64 a0_5) := (blk_cell BK101.out 5).trans rfl
      have hfz10_0 := blk_frozen BK101.out 0
      have hfz10_1 := blk_frozen BK101.out 1
      have hfz10_2 := blk_frozen BK101.out 2
      have hfz10_3 := blk_frozen BK101.out 3
      have hfz10_4 := blk_frozen BK101.out 4
      have hfz10_5 := blk_frozen BK101.out 5
      go_wp2
      go_meet
      case rel => exact ⟨_, (true), (by first | rfl | (simp; done) | (simp [*]; done)), H', ⟨by have := HJ1.out; first | omega | exact Nat.le_refl _⟩, ⟨by (with_reducible repeat (first | refine blk_drewN ?_ _ | refine blk_drew ?_ | refine blk_alloc ?_ _)); exact BK101.out⟩, ⟨by repeat (first | (with_reducible first | exact HB.out | apply below_alloc | apply pw_below_drewN | apply below_drew1 | refine below_set ?_ GE101.out) | exact HB.out)⟩⟩
    case rest =>
     clear HC7
     try clear c2
     try clear p2
     try clear c5
     try clear c5b0
     try clear c5b1
     try clear c6
     try clear c8
     try clear c8b0
     try clear c8b1
     try clear c8b2
     try clear hcz10_0
     try clear hcz10_1
     try clear hcz10_2
     try clear hcz10_3
     try clear hcz10_4
     try clear hcz10_5
     try clear hcz4_0
     try clear hcz4_1
     try clear hcz4_2
     try clear hcz4_3
     try clear hcz4_4
     try clear hcz4_5
     try clear hcz9_0
     try clear hcz9_1
     try clear hcz9_2
     try clear hcz9_3
     try clear hcz9_4
     try clear hcz9_5
     try clear hfz10_0
     try clear hfz10_1
     try clear hfz10_2
     try clear hfz10_3
     try clear hfz10_4
     try clear hfz10_5
     try clear hfz4_0
     try clear hfz4_1
     try clear hfz4_2
     try clear hfz4_3
     try clear hfz4_4
     try clear hfz4_5
     try clear hfz9_0
     try clear hfz9_1
     try clear hfz9_2
     try clear hfz9_3
     try clear hfz9_4
     try clear hfz9_5
     try clear p2
     obtain ⟨kq, x16_6, rfl, HA, HJ6, BK101, HB⟩ := hcut
     cases kq with
     | zero => exact absurd HA.out (by simp [bridge_Check.j1])
     | succ kj6 =>
      have H := HA.out
      clear HA
      simp only [bridge_Check.j1] at H
      by_cases c11 : x16_6 = true
      ·subst c11
       have H1 : (some 17) = some r := by rw [if_pos rfl] at H; exact H
       clear H
       have H := H1
       clear H1
       obtain rfl := Option.some.inj H
       go_wp2
       go_ret
       exact ⟨by first | rfl | (simp [errW_none, errW_some] <;> rfl) | (simp [*, errW_none, errW_some] <;> rfl), by repeat (first | (with_reducible first | exact HB.out | apply below_alloc | apply pw_below_drewN | apply below_drew1 | refine below_set ?_ GE101.out) | exact HB.out)⟩
      ·replace c11 := Bool.eq_false_iff.mpr c11
       subst c11
       have H1 : ((bridge_between.f a0_3 0 1000).bind fun t102 => (if t102 = true then (if a0_4 < 1 then (some 2) else (if a0_4 > 4 then (some 2) else ((bridge_between.f a0_5 0 4096).bind fun t103 => (if t103 = true then (bridge_Check.l0 kj6 l0_0 (l0_0.length : Int) 0 l0_0 l0_1 l0_2 a0_3 a0_4 a0_5) else (some 2))))) else (some 2))) = some r := by rw [if_neg (show ¬ (false = true) by decide)] at H; exact H
       clear H
       have H := H1
       clear H1
       replace H := Option.bind_eq_some_iff.mp H
       obtain ⟨t102, A120, H⟩ := H
       replace H : (if t102 = true then (if a0_4 < 1 then (some 2) else (if a0_4 > 4 then (some 2) else ((bridge_between.f a0_5 0 4096).bind fun t103 => (if t103 = true then (bridge_Check.l0 kj6 l0_0 (l0_0.length : Int) 0 l0_0 l0_1 l0_2 a0_3 a0_4 a0_5) else (some 2))))) else (some 2)) = some r := H
       have A12 := Aside0.mk A120
       clear A120
       by_cases c13 : t102 = true
       ·subst c13
        have H1 : (if a0_4 < 1 then (some 2) else (if a0_4 > 4 then (some 2) else ((bridge_between.f a0_5 0 4096).bind fun t103 => (if t103 = true then (bridge_Check.l0 kj6 l0_0 (l0_0.length : Int) 0 l0_0 l0_1 l0_2 a0_3 a0_4 a0_5) else (some 2))))) = some r := by rw [if_pos rfl] at H; exact H
        clear H
        have H := H1
        clear H1
        by_cases c14 : a0_4 < 1
        ·rw [if_pos c14] at H
         have c14b0 : decide (a0_4 < 1) = true := decide_eq_true c14
         clear c14
         obtain rfl := Option.some.inj H
         have hcz15_0 : wc.cell? ⟨gb101, 0, none⟩ = some (.slice A0_0 l0_0.length c0_0) := (blk_cell BK101.out 0).trans rfl
         have hcz15_1 : wc.cell? ⟨gb101, 1, none⟩ = some (.slice A0_1 l0_1.length c0_1) := (blk_cell BK101.out 1).trans rfl
         have hcz15_2 : wc.cell? ⟨gb101, 2, none⟩ = some (.slice A0_2 l0_2.length c0_2) := (blk_cell BK101.out 2).trans rfl
         have hcz15_3 : wc.cell? ⟨gb101, 3, none⟩ = some (.int .i64 a0_3) := (blk_cell BK101.out 3).trans rfl
         have hcz15_4 : wc.cell? ⟨gb101, 4, none⟩ = some (.int .i64 a0_4) := (blk_cell BK101.out 4).trans rfl
         have hcz15_5 : wc.cell? ⟨gb101, 5, none⟩ = some (.int .i64 a0_5) := (blk_cell BK101.out 5).trans rfl
         have hfz15_0 := blk_frozen BK101.out 0
         have hfz15_1 := blk_frozen BK101.out 1
         have hfz15_2 := blk_frozen BK101.out 2
         have hfz15_3 := blk_frozen BK101.out 3
         have hfz15_4 := blk_frozen BK101.out 4
         have hfz15_5 := blk_frozen BK101.out 5
         go_wp2_with (first | ((with_reducible refine gate_callee (f := 44) rfl ?_); refine goesL_ (some 32) rfl rfl Try.func44 (by kernel_rfl) rfl #[.int .i64 a0_3, .int .i64 0, .int .i64 1000] rfl (by (try simp only [List.map_toArray, List.map_cons, List.map_nil]); first | done | rfl | (simp only [List.length_drop, List.length_take]; rfl)) ?_; (with_reducible refine (bridge_between.calls a0_3 0 1000 true _ A12.out).mono ?_); rintro e w' ⟨rfl, ⟨nd, rfl⟩⟩; refine ⟨_, rfl, ?_⟩))
         go_ret
         exact ⟨by first | rfl | (simp [errW_none, errW_some] <;> rfl) | (simp [*, errW_none, errW_some] <;> rfl), by repeat (first | (with_reducible first | exact HB.out | apply below_alloc | apply pw_below_drewN | apply below_drew1 | refine below_set ?_ GE101.out) | exact HB.out)⟩
        ·rw [if_neg c14] at H
         have c14b0 : decide (a0_4 < 1) = false := decide_eq_false c14
         clear c14
         by_cases c16 : a0_4 > 4
         ·rw [if_pos c16] at H
          have c16b0 : decide (4 < a0_4) = true := decide_eq_true c16
          clear c16
          obtain rfl := Option.some.inj H
          have hcz17_0 : wc.cell? ⟨gb101, 0, none⟩ = some (.slice A0_0 l0_0.length c0_0) := (blk_cell BK101.out 0).trans rfl
          have hcz17_1 : wc.cell? ⟨gb101, 1, none⟩ = some (.slice A0_1 l0_1.length c0_1) := (blk_cell BK101.out 1).trans rfl
          have hcz17_2 : wc.cell? ⟨gb101, 2, none⟩ = some (.slice A0_2 l0_2.length c0_2) := (blk_cell BK101.out 2).trans rfl
          have hcz17_3 : wc.cell? ⟨gb101, 3, none⟩ = some (.int .i64 a0_3) := (blk_cell BK101.out 3).trans rfl
          have hcz17_4 : wc.cell? ⟨gb101, 4, none⟩ = some (.int .i64 a0_4) := (blk_cell BK101.out 4).trans rfl
          have hcz17_5 : wc.cell? ⟨gb101, 5, none⟩ = some (.int .i64 a0_5) := (blk_cell BK101.out 5).trans rfl
          have hfz17_0 := blk_frozen BK101.out 0
          have hfz17_1 := blk_frozen BK101.out 1
          have hfz17_2 := blk_frozen BK101.out 2
          have hfz17_3 := blk_frozen BK101.out 3
          have hfz17_4 := blk_frozen BK101.out 4
          have hfz17_5 := blk_frozen BK101.out 5
          go_wp2_with (first | ((with_reducible refine gate_callee (f := 44) rfl ?_); refine goesL_ (some 32) rfl rfl Try.func44 (by kernel_rfl) rfl #[.int .i64 a0_3, .int .i64 0, .int .i64 1000] rfl (by (try simp only [List.map_toArray, List.map_cons, List.map_nil]); first | done | rfl | (simp only [List.length_drop, List.length_take]; rfl)) ?_; (with_reducible refine (bridge_between.calls a0_3 0 1000 true _ A12.out).mono ?_); rintro e w' ⟨rfl, ⟨nd, rfl⟩⟩; refine ⟨_, rfl, ?_⟩))
          go_ret
          exact ⟨by first | rfl | (simp [errW_none, errW_some] <;> rfl) | (simp [*, errW_none, errW_some] <;> rfl), by repeat (first | (with_reducible first | exact HB.out | apply below_alloc | apply pw_below_drewN | apply below_drew1 | refine below_set ?_ GE101.out) | exact HB.out)⟩
         ·rw [if_neg c16] at H
          have c16b0 : decide (4 < a0_4) = false := decide_eq_false c16
          clear c16
          replace H := Option.bind_eq_some_iff.mp H
          obtain ⟨t103, A180, H⟩ := H
          replace H : (if t103 = true then (bridge_Check.l0 kj6 l0_0 (l0_0.length : Int) 0 l0_0 l0_1 l0_2 a0_3 a0_4 a0_5) else (some 2)) = some r := H
          have A18 := Aside0.mk A180
          clear A180
          by_cases c19 : t103 = true
          ·subst c19
           have H1 : (bridge_Check.l0 kj6 l0_0 (l0_0.length : Int) 0 l0_0 l0_1 l0_2 a0_3 a0_4 a0_5) = some r := by rw [if_pos rfl] at H; exact H
           clear H
           have H := H1
           clear H1
           have H' := Aside0.mk H
           clear H
           have hcz20_0 : wc.cell? ⟨gb101, 0, none⟩ = some (.slice A0_0 l0_0.length c0_0) := (blk_cell BK101.out 0).trans rfl
           have hcz20_1 : wc.cell? ⟨gb101, 1, none⟩ = some (.slice A0_1 l0_1.length c0_1) := (blk_cell BK101.out 1).trans rfl
           have hcz20_2 : wc.cell? ⟨gb101, 2, none⟩ = some (.slice A0_2 l0_2.length c0_2) := (blk_cell BK101.out 2).trans rfl
           have hcz20_3 : wc.cell? ⟨gb101, 3, none⟩ = some (.int .i64 a0_3) := (blk_cell BK101.out 3).trans rfl
           have hcz20_4 : wc.cell? ⟨gb101, 4, none⟩ = some (.int .i64 a0_4) := (blk_cell BK101.out 4).trans rfl
           have hcz20_5 : wc.cell? ⟨gb101, 5, none⟩ = some (.int .i64 a0_5) := (blk_cell BK101.out 5).trans rfl
           have hfz20_0 := blk_frozen BK101.out 0
           have hfz20_1 := blk_frozen BK101.out 1
           have hfz20_2 := blk_frozen BK101.out 2
           have hfz20_3 := blk_frozen BK101.out 3
           have hfz20_4 := blk_frozen BK101.out 4
           have hfz20_5 := blk_frozen BK101.out 5
           go_wp2_with (first | ((with_reducible refine gate_callee (f := 44) rfl ?_); refine goesL_ (some 32) rfl rfl Try.func44 (by kernel_rfl) rfl #[.int .i64 a0_3, .int .i64 0, .int .i64 1000] rfl (by (try simp only [List.map_toArray, List.map_cons, List.map_nil]); first | done | rfl | (simp only [List.length_drop, List.length_take]; rfl)) ?_; (with_reducible refine (bridge_between.calls a0_3 0 1000 true _ A12.out).mono ?_); rintro e w' ⟨rfl, ⟨nd, rfl⟩⟩; refine ⟨_, rfl, ?_⟩) | (go_at_call 44; (with_reducible refine (bridge_between.calls a0_5 0 4096 true _ A18.out).mono ?_); rintro e w' ⟨rfl, ⟨nd, rfl⟩⟩))
           go_loopg [53] kj6 (fun kq v53 w' => ∃ (x53_3 : Int), v53 = .int .i64 x53_3 ∧ Aside0 (bridge_Check.l0 kq l0_0 (l0_0.length : Int) x53_3 l0_0 l0_1 l0_2 a0_3 a0_4 a0_5 = some r) ∧ Aside0 (kq ≤ kj6) ∧ Aside0 (w'.heap[gb101]? = some (.cells #[(.slice A0_0 l0_0.length c0_0), (.slice A0_1 l0_1.length c0_1), (.slice A0_2 l0_2.length c0_2), .int .i64 a0_3, .int .i64 a0_4, .int .i64 a0_5] 24 (0, 0))) ∧ Aside0 (Below w.heap.size w w'))
           case atStart => exact ⟨(0), (by first | rfl | (simp; done) | (simp [*]; done)), H', ⟨Nat.le_refl _⟩, ⟨by (with_reducible repeat (first | refine blk_drewN ?_ _ | refine blk_drew ?_ | refine blk_alloc ?_ _)); exact BK101.out⟩, ⟨by repeat (first | (with_reducible first | exact HB.out | apply below_alloc | apply pw_below_drewN | apply below_drew1 | refine below_set ?_ GE101.out) | exact HB.out)⟩⟩
           case round =>
            clear H'
            try clear c1
            try clear c2
            try clear p2
            try clear c4
            try clear c5
            try clear c5b0
            try clear c5b1
            try clear c6
            try clear c8
            try clear c8b0
            try clear c8b1
            try clear c8b2
            try clear c11
            try clear c13
            try clear c14
            try clear c14b0
            try clear c16
            try clear c16b0
            try clear c19
            try clear hcz10_0
            try clear hcz10_1
            try clear hcz10_2
            try clear hcz10_3
            try clear hcz10_4
            try clear hcz10_5
            try clear hcz15_0
            try clear hcz15_1
            try clear hcz15_2
            try clear hcz15_3
            try clear hcz15_4
            try clear hcz15_5
            try clear hcz17_0
            try clear hcz17_1
            try clear hcz17_2
            try clear hcz17_3
            try clear hcz17_4
            try clear hcz17_5
            try clear hcz20_0
            try clear hcz20_1
            try clear hcz20_2
            try clear hcz20_3
            try clear hcz20_4
            try clear hcz20_5
            try clear hcz4_0
            try clear hcz4_1
            try clear hcz4_2
            try clear hcz4_3
            try clear hcz4_4
            try clear hcz4_5
            try clear hcz9_0
            try clear hcz9_1
            try clear hcz9_2
            try clear hcz9_3
            try clear hcz9_4
            try clear hcz9_5
            try clear hfz10_0
            try clear hfz10_1
            try clear hfz10_2
            try clear hfz10_3
            try clear hfz10_4
            try clear hfz10_5
            try clear hfz15_0
            try clear hfz15_1
            try clear hfz15_2
            try clear hfz15_3
            try clear hfz15_4
            try clear hfz15_5
            try clear hfz17_0
            try clear hfz17_1
            try clear hfz17_2
            try clear hfz17_3
            try clear hfz17_4
            try clear hfz17_5
            try clear hfz20_0
            try clear hfz20_1
            try clear hfz20_2
            try clear hfz20_3
            try clear hfz20_4
            try clear hfz20_5
            try clear hfz4_0
            try clear hfz4_1
            try clear hfz4_2
            try clear hfz4_3
            try clear hfz4_4
            try clear hfz4_5
            try clear hfz9_0
            try clear hfz9_1
            try clear hfz9_2
            try clear hfz9_3
            try clear hfz9_4
            try clear hfz9_5
            try clear p2
            obtain ⟨x53_3, rfl, HA, HK3, BK101, HB⟩ := hrel
            cases gk with
            | zero => exact absurd HA.out (by simp [bridge_Check.l0])
            | succ k3 =>
             have H := HA.out
             clear HA
             simp only [bridge_Check.l0] at H
             by_cases c21 : x53_3 < (l0_0.length : Int)
             ·rw [if_pos c21] at H
              have c21b0 : decide (x53_3 < (l0_0.length : Int)) = true := decide_eq_true c21
              clear c21
              by_cases c22 : 0 ≤ x53_3
              ·rw [if_pos c22] at H
               have c22b0 : decide (0 ≤ x53_3) = true := decide_eq_true c22
               clear c22
               by_cases c23 : x53_3 < (l0_0.length : Int)
               ·rw [if_pos c23] at H
                have c23b0 : decide (x53_3 < (l0_0.length : Int)) = true := decide_eq_true c23
                clear c23
                replace H := Option.bind_eq_some_iff.mp H
                obtain ⟨t105, A240, H⟩ := H
                replace H : (if t105 = true then (if x53_3 < (l0_1.length : Int) then ((bridge_between.f (rd l0_1 x53_3) 1 1073741824).bind fun t107 => (if t107 = true then (if x53_3 < (l0_2.length : Int) then ((bridge_between.f (rd l0_2 x53_3) 1 1073741824).bind fun t109 => (if t109 = true then (bridge_Check.l0 k3 l0_0 (l0_0.length : Int) (wrap64 (x53_3 + 1)) l0_0 l0_1 l0_2 a0_3 a0_4 a0_5) else (some 2))) else (none)) else (some 2))) else (none)) else (some 2)) = some r := H
                have A24 := Aside0.mk A240
                clear A240
                by_cases c25 : t105 = true
                ·subst c25
                 have H1 : (if x53_3 < (l0_1.length : Int) then ((bridge_between.f (rd l0_1 x53_3) 1 1073741824).bind fun t107 => (if t107 = true then (if x53_3 < (l0_2.length : Int) then ((bridge_between.f (rd l0_2 x53_3) 1 1073741824).bind fun t109 => (if t109 = true then (bridge_Check.l0 k3 l0_0 (l0_0.length : Int) (wrap64 (x53_3 + 1)) l0_0 l0_1 l0_2 a0_3 a0_4 a0_5) else (some 2))) else (none)) else (some 2))) else (none)) = some r := by rw [if_pos rfl] at H; exact H
                 clear H
                 have H := H1
                 clear H1
                 by_cases c26 : x53_3 < (l0_1.length : Int)
                 ·rw [if_pos c26] at H
                  have c26b0 : decide (x53_3 < (l0_1.length : Int)) = true := decide_eq_true c26
                  clear c26
                  replace H := Option.bind_eq_some_iff.mp H
                  obtain ⟨t107, A270, H⟩ := H
                  replace H : (if t107 = true then (if x53_3 < (l0_2.length : Int) then ((bridge_between.f (rd l0_2 x53_3) 1 1073741824).bind fun t109 => (if t109 = true then (bridge_Check.l0 k3 l0_0 (l0_0.length : Int) (wrap64 (x53_3 + 1)) l0_0 l0_1 l0_2 a0_3 a0_4 a0_5) else (some 2))) else (none)) else (some 2)) = some r := H
                  have A27 := Aside0.mk A270
                  clear A270
                  by_cases c28 : t107 = true
                  ·subst c28
                   have H1 : (if x53_3 < (l0_2.length : Int) then ((bridge_between.f (rd l0_2 x53_3) 1 1073741824).bind fun t109 => (if t109 = true then (bridge_Check.l0 k3 l0_0 (l0_0.length : Int) (wrap64 (x53_3 + 1)) l0_0 l0_1 l0_2 a0_3 a0_4 a0_5) else (some 2))) else (none)) = some r := by rw [if_pos rfl] at H; exact H
                   clear H
                   have H := H1
                   clear H1
                   by_cases c29 : x53_3 < (l0_2.length : Int)
                   ·rw [if_pos c29] at H
                    have c29b0 : decide (x53_3 < (l0_2.length : Int)) = true := decide_eq_true c29
                    clear c29
                    replace H := Option.bind_eq_some_iff.mp H
                    obtain ⟨t109, A300, H⟩ := H
                    replace H : (if t109 = true then (bridge_Check.l0 k3 l0_0 (l0_0.length : Int) (wrap64 (x53_3 + 1)) l0_0 l0_1 l0_2 a0_3 a0_4 a0_5) else (some 2)) = some r := H
                    have A30 := Aside0.mk A300
                    clear A300
                    by_cases c31 : t109 = true
                    ·subst c31
                     have H1 : (bridge_Check.l0 k3 l0_0 (l0_0.length : Int) (wrap64 (x53_3 + 1)) l0_0 l0_1 l0_2 a0_3 a0_4 a0_5) = some r := by rw [if_pos rfl] at H; exact H
                     clear H
                     have H := H1
                     clear H1
                     have H' := Aside0.mk H
                     clear H
                     have p104 : 0 ≤ (x53_3 : Int) := of_decide_eq_true (by first | (with_reducible assumption) | assumption)
                     have q104 : x53_3 < (l0_0.length : Int) := of_decide_eq_true (by first | (with_reducible assumption) | assumption)
                     obtain ⟨ad104, e104, hx104_0⟩ := Kd.at_int HR0_0.out x53_3 p104 q104
                     cases e104
                     replace hx104_0 := (HB.out.cell (World.block_lt_of_cell? w _ hx104_0)).trans hx104_0
                     replace p104 := eq_true p104
                     replace q104 := eq_true q104
                     go_wp2_with (first | ((with_reducible refine gate_callee (f := 44) rfl ?_); refine goesL_ (some 59) rfl rfl Try.func44 (by kernel_rfl) rfl #[.int .i64 (rd l0_0 x53_3), .int .i64 100, .int .i64 131072] rfl (by (try simp only [List.map_toArray, List.map_cons, List.map_nil]); first | done | rfl | (simp only [List.length_drop, List.length_take]; rfl)) ?_; (with_reducible refine (bridge_between.calls (rd l0_0 x53_3) 100 131072 true _ A24.out).mono ?_); rintro e w' ⟨rfl, ⟨nd, rfl⟩⟩; refine ⟨_, rfl, ?_⟩; have hcz32_0 : wr.cell? ⟨gb101, 0, none⟩ = some (.slice (some ad104) l0_0.length c0_0) := (blk_cell BK101.out 0).trans rfl; have hcz32_1 : wr.cell? ⟨gb101, 1, none⟩ = some (.slice A0_1 l0_1.length c0_1) := (blk_cell BK101.out 1).trans rfl; have hcz32_2 : wr.cell? ⟨gb101, 2, none⟩ = some (.slice A0_2 l0_2.length c0_2) := (blk_cell BK101.out 2).trans rfl; have hcz32_3 : wr.cell? ⟨gb101, 3, none⟩ = some (.int .i64 a0_3) := (blk_cell BK101.out 3).trans rfl; have hcz32_4 : wr.cell? ⟨gb101, 4, none⟩ = some (.int .i64 a0_4) := (blk_cell BK101.out 4).trans rfl; have hcz32_5 : wr.cell? ⟨gb101, 5, none⟩ = some (.int .i64 a0_5) := (blk_cell BK101.out 5).trans rfl; have hfz32_0 := blk_frozen BK101.out 0; have hfz32_1 := blk_frozen BK101.out 1; have hfz32_2 := blk_frozen BK101.out 2; have hfz32_3 := blk_frozen BK101.out 3; have hfz32_4 := blk_frozen BK101.out 4; have hfz32_5 := blk_frozen BK101.out 5; have p106 : 0 ≤ (x53_3 : Int) := of_decide_eq_true (by first | (with_reducible assumption) | assumption); have q106 : x53_3 < (l0_1.length : Int) := of_decide_eq_true (by first | (with_reducible assumption) | assumption); obtain ⟨ad106, e106, hx106_0⟩ := Kd.at_int HR0_1.out x53_3 p106 q106; cases e106; replace hx106_0 := (HB.out.cell (World.block_lt_of_cell? w _ hx106_0)).trans hx106_0; replace p106 := eq_true p106; replace q106 := eq_true q106) | (go_at_call 44; (with_reducible refine (bridge_between.calls (rd l0_1 x53_3) 1 1073741824 true _ A27.out).mono ?_); rintro e w' ⟨rfl, ⟨nd, rfl⟩⟩; have p108 : 0 ≤ (x53_3 : Int) := of_decide_eq_true (by first | (with_reducible assumption) | assumption); have q108 : x53_3 < (l0_2.length : Int) := of_decide_eq_true (by first | (with_reducible assumption) | assumption); obtain ⟨ad108, e108, hx108_0⟩ := Kd.at_int HR0_2.out x53_3 p108 q108; cases e108; replace hx108_0 := (HB.out.cell (World.block_lt_of_cell? w _ hx108_0)).trans hx108_0; replace p108 := eq_true p108; replace q108 := eq_true q108) | (go_at_call 44; (with_reducible refine (bridge_between.calls (rd l0_2 x53_3) 1 1073741824 true _ A30.out).mono ?_); rintro e w' ⟨rfl, ⟨nd, rfl⟩⟩))
                     go_roundg k3
                     case measure => have := HJ1.out; have := HJ6.out; have := HK3.out; omega
                     case rel => exact ⟨(wrap64 (x53_3 + 1)), (by first | rfl | (simp; done) | (simp [*]; done)), H', ⟨by have := HJ1.out; have := HJ6.out; have := HK3.out; omega⟩, ⟨by (with_reducible repeat (first | refine blk_drewN ?_ _ | refine blk_drew ?_ | refine blk_alloc ?_ _)); exact BK101.out⟩, ⟨by repeat (first | (with_reducible first | exact HB.out | apply below_alloc | apply pw_below_drewN | apply below_drew1 | refine below_set ?_ GE101.out) | exact HB.out)⟩⟩
                    ·replace c31 := Bool.eq_false_iff.mpr c31
                     subst c31
                     have H1 : (some 2) = some r := by rw [if_neg (show ¬ (false = true) by decide)] at H; exact H
                     clear H
                     have H := H1
                     clear H1
                     obtain rfl := Option.some.inj H
                     have p104 : 0 ≤ (x53_3 : Int) := of_decide_eq_true (by first | (with_reducible assumption) | assumption)
                     have q104 : x53_3 < (l0_0.length : Int) := of_decide_eq_true (by first | (with_reducible assumption) | assumption)
                     obtain ⟨ad104, e104, hx104_0⟩ := Kd.at_int HR0_0.out x53_3 p104 q104
                     cases e104
                     replace hx104_0 := (HB.out.cell (World.block_lt_of_cell? w _ hx104_0)).trans hx104_0
                     replace p104 := eq_true p104
                     replace q104 := eq_true q104
                     go_wp2_with (first | ((with_reducible refine gate_callee (f := 44) rfl ?_); refine goesL_ (some 59) rfl rfl Try.func44 (by kernel_rfl) rfl #[.int .i64 (rd l0_0 x53_3), .int .i64 100, .int .i64 131072] rfl (by (try simp only [List.map_toArray, List.map_cons, List.map_nil]); first | done | rfl | (simp only [List.length_drop, List.length_take]; rfl)) ?_; (with_reducible refine (bridge_between.calls (rd l0_0 x53_3) 100 131072 true _ A24.out).mono ?_); rintro e w' ⟨rfl, ⟨nd, rfl⟩⟩; refine ⟨_, rfl, ?_⟩; have hcz33_0 : wr.cell? ⟨gb101, 0, none⟩ = some (.slice (some ad104) l0_0.length c0_0) := (blk_cell BK101.out 0).trans rfl; have hcz33_1 : wr.cell? ⟨gb101, 1, none⟩ = some (.slice A0_1 l0_1.length c0_1) := (blk_cell BK101.out 1).trans rfl; have hcz33_2 : wr.cell? ⟨gb101, 2, none⟩ = some (.slice A0_2 l0_2.length c0_2) := (blk_cell BK101.out 2).trans rfl; have hcz33_3 : wr.cell? ⟨gb101, 3, none⟩ = some (.int .i64 a0_3) := (blk_cell BK101.out 3).trans rfl; have hcz33_4 : wr.cell? ⟨gb101, 4, none⟩ = some (.int .i64 a0_4) := (blk_cell BK101.out 4).trans rfl; have hcz33_5 : wr.cell? ⟨gb101, 5, none⟩ = some (.int .i64 a0_5) := (blk_cell BK101.out 5).trans rfl; have hfz33_0 := blk_frozen BK101.out 0; have hfz33_1 := blk_frozen BK101.out 1; have hfz33_2 := blk_frozen BK101.out 2; have hfz33_3 := blk_frozen BK101.out 3; have hfz33_4 := blk_frozen BK101.out 4; have hfz33_5 := blk_frozen BK101.out 5; have p106 : 0 ≤ (x53_3 : Int) := of_decide_eq_true (by first | (with_reducible assumption) | assumption); have q106 : x53_3 < (l0_1.length : Int) := of_decide_eq_true (by first | (with_reducible assumption) | assumption); obtain ⟨ad106, e106, hx106_0⟩ := Kd.at_int HR0_1.out x53_3 p106 q106; cases e106; replace hx106_0 := (HB.out.cell (World.block_lt_of_cell? w _ hx106_0)).trans hx106_0; replace p106 := eq_true p106; replace q106 := eq_true q106) | (go_at_call 44; (with_reducible refine (bridge_between.calls (rd l0_1 x53_3) 1 1073741824 true _ A27.out).mono ?_); rintro e w' ⟨rfl, ⟨nd, rfl⟩⟩; have p108 : 0 ≤ (x53_3 : Int) := of_decide_eq_true (by first | (with_reducible assumption) | assumption); have q108 : x53_3 < (l0_2.length : Int) := of_decide_eq_true (by first | (with_reducible assumption) | assumption); obtain ⟨ad108, e108, hx108_0⟩ := Kd.at_int HR0_2.out x53_3 p108 q108; cases e108; replace hx108_0 := (HB.out.cell (World.block_lt_of_cell? w _ hx108_0)).trans hx108_0; replace p108 := eq_true p108; replace q108 := eq_true q108) | (go_at_call 44; (with_reducible refine (bridge_between.calls (rd l0_2 x53_3) 1 1073741824 false _ A30.out).mono ?_); rintro e w' ⟨rfl, ⟨nd, rfl⟩⟩))
                     go_ret
                     exact ⟨by first | rfl | (simp [errW_none, errW_some] <;> rfl) | (simp [*, errW_none, errW_some] <;> rfl), by repeat (first | (with_reducible first | exact HB.out | apply below_alloc | apply pw_below_drewN | apply below_drew1 | refine below_set ?_ GE101.out) | exact HB.out)⟩
                   ·rw [if_neg c29] at H
                    exact absurd H (by simp)
                  ·replace c28 := Bool.eq_false_iff.mpr c28
                   subst c28
                   have H1 : (some 2) = some r := by rw [if_neg (show ¬ (false = true) by decide)] at H; exact H
                   clear H
                   have H := H1
                   clear H1
                   obtain rfl := Option.some.inj H
                   have p104 : 0 ≤ (x53_3 : Int) := of_decide_eq_true (by first | (with_reducible assumption) | assumption)
                   have q104 : x53_3 < (l0_0.length : Int) := of_decide_eq_true (by first | (with_reducible assumption) | assumption)
                   obtain ⟨ad104, e104, hx104_0⟩ := Kd.at_int HR0_0.out x53_3 p104 q104
                   cases e104
                   replace hx104_0 := (HB.out.cell (World.block_lt_of_cell? w _ hx104_0)).trans hx104_0
                   replace p104 := eq_true p104
                   replace q104 := eq_true q104
                   go_wp2_with (first | ((with_reducible refine gate_callee (f := 44) rfl ?_); refine goesL_ (some 59) rfl rfl Try.func44 (by kernel_rfl) rfl #[.int .i64 (rd l0_0 x53_3), .int .i64 100, .int .i64 131072] rfl (by (try simp only [List.map_toArray, List.map_cons, List.map_nil]); first | done | rfl | (simp only [List.length_drop, List.length_take]; rfl)) ?_; (with_reducible refine (bridge_between.calls (rd l0_0 x53_3) 100 131072 true _ A24.out).mono ?_); rintro e w' ⟨rfl, ⟨nd, rfl⟩⟩; refine ⟨_, rfl, ?_⟩; have hcz34_0 : wr.cell? ⟨gb101, 0, none⟩ = some (.slice (some ad104) l0_0.length c0_0) := (blk_cell BK101.out 0).trans rfl; have hcz34_1 : wr.cell? ⟨gb101, 1, none⟩ = some (.slice A0_1 l0_1.length c0_1) := (blk_cell BK101.out 1).trans rfl; have hcz34_2 : wr.cell? ⟨gb101, 2, none⟩ = some (.slice A0_2 l0_2.length c0_2) := (blk_cell BK101.out 2).trans rfl; have hcz34_3 : wr.cell? ⟨gb101, 3, none⟩ = some (.int .i64 a0_3) := (blk_cell BK101.out 3).trans rfl; have hcz34_4 : wr.cell? ⟨gb101, 4, none⟩ = some (.int .i64 a0_4) := (blk_cell BK101.out 4).trans rfl; have hcz34_5 : wr.cell? ⟨gb101, 5, none⟩ = some (.int .i64 a0_5) := (blk_cell BK101.out 5).trans rfl; have hfz34_0 := blk_frozen BK101.out 0; have hfz34_1 := blk_frozen BK101.out 1; have hfz34_2 := blk_frozen BK101.out 2; have hfz34_3 := blk_frozen BK101.out 3; have hfz34_4 := blk_frozen BK101.out 4; have hfz34_5 := blk_frozen BK101.out 5; have p106 : 0 ≤ (x53_3 : Int) := of_decide_eq_true (by first | (with_reducible assumption) | assumption); have q106 : x53_3 < (l0_1.length : Int) := of_decide_eq_true (by first | (with_reducible assumption) | assumption); obtain ⟨ad106, e106, hx106_0⟩ := Kd.at_int HR0_1.out x53_3 p106 q106; cases e106; replace hx106_0 := (HB.out.cell (World.block_lt_of_cell? w _ hx106_0)).trans hx106_0; replace p106 := eq_true p106; replace q106 := eq_true q106) | (go_at_call 44; (with_reducible refine (bridge_between.calls (rd l0_1 x53_3) 1 1073741824 false _ A27.out).mono ?_); rintro e w' ⟨rfl, ⟨nd, rfl⟩⟩))
                   go_ret
                   exact ⟨by first | rfl | (simp [errW_none, errW_some] <;> rfl) | (simp [*, errW_none, errW_some] <;> rfl), by repeat (first | (with_reducible first | exact HB.out | apply below_alloc | apply pw_below_drewN | apply below_drew1 | refine below_set ?_ GE101.out) | exact HB.out)⟩
                 ·rw [if_neg c26] at H
                  exact absurd H (by simp)
                ·replace c25 := Bool.eq_false_iff.mpr c25
                 subst c25
                 have H1 : (some 2) = some r := by rw [if_neg (show ¬ (false = true) by decide)] at H; exact H
                 clear H
                 have H := H1
                 clear H1
                 obtain rfl := Option.some.inj H
                 have p104 : 0 ≤ (x53_3 : Int) := of_decide_eq_true (by first | (with_reducible assumption) | assumption)
                 have q104 : x53_3 < (l0_0.length : Int) := of_decide_eq_true (by first | (with_reducible assumption) | assumption)
                 obtain ⟨ad104, e104, hx104_0⟩ := Kd.at_int HR0_0.out x53_3 p104 q104
                 cases e104
                 replace hx104_0 := (HB.out.cell (World.block_lt_of_cell? w _ hx104_0)).trans hx104_0
                 replace p104 := eq_true p104
                 replace q104 := eq_true q104
                 go_wp2_with (first | ((with_reducible refine gate_callee (f := 44) rfl ?_); refine goesL_ (some 59) rfl rfl Try.func44 (by kernel_rfl) rfl #[.int .i64 (rd l0_0 x53_3), .int .i64 100, .int .i64 131072] rfl (by (try simp only [List.map_toArray, List.map_cons, List.map_nil]); first | done | rfl | (simp only [List.length_drop, List.length_take]; rfl)) ?_; (with_reducible refine (bridge_between.calls (rd l0_0 x53_3) 100 131072 false _ A24.out).mono ?_); rintro e w' ⟨rfl, ⟨nd, rfl⟩⟩; refine ⟨_, rfl, ?_⟩))
                 go_ret
                 exact ⟨by first | rfl | (simp [errW_none, errW_some] <;> rfl) | (simp [*, errW_none, errW_some] <;> rfl), by repeat (first | (with_reducible first | exact HB.out | apply below_alloc | apply pw_below_drewN | apply below_drew1 | refine below_set ?_ GE101.out) | exact HB.out)⟩
               ·rw [if_neg c23] at H
                exact absurd H (by simp)
              ·rw [if_neg c22] at H
               exact absurd H (by simp)
             ·rw [if_neg c21] at H
              have c21b0 : decide (x53_3 < (l0_0.length : Int)) = false := decide_eq_false c21
              clear c21
              obtain rfl := Option.some.inj H
              go_wp2
              go_ret
              exact ⟨by first | rfl | (simp [errW_none, errW_some] <;> rfl) | (simp [*, errW_none, errW_some] <;> rfl), by repeat (first | (with_reducible first | exact HB.out | apply below_alloc | apply pw_below_drewN | apply below_drew1 | refine below_set ?_ GE101.out) | exact HB.out)⟩
          ·replace c19 := Bool.eq_false_iff.mpr c19
           subst c19
           have H1 : (some 2) = some r := by rw [if_neg (show ¬ (false = true) by decide)] at H; exact H
           clear H
           have H := H1
           clear H1
           obtain rfl := Option.some.inj H
           have hcz35_0 : wc.cell? ⟨gb101, 0, none⟩ = some (.slice A0_0 l0_0.length c0_0) := (blk_cell BK101.out 0).trans rfl
           have hcz35_1 : wc.cell? ⟨gb101, 1, none⟩ = some (.slice A0_1 l0_1.length c0_1) := (blk_cell BK101.out 1).trans rfl
           have hcz35_2 : wc.cell? ⟨gb101, 2, none⟩ = some (.slice A0_2 l0_2.length c0_2) := (blk_cell BK101.out 2).trans rfl
           have hcz35_3 : wc.cell? ⟨gb101, 3, none⟩ = some (.int .i64 a0_3) := (blk_cell BK101.out 3).trans rfl
           have hcz35_4 : wc.cell? ⟨gb101, 4, none⟩ = some (.int .i64 a0_4) := (blk_cell BK101.out 4).trans rfl
           have hcz35_5 : wc.cell? ⟨gb101, 5, none⟩ = some (.int .i64 a0_5) := (blk_cell BK101.out 5).trans rfl
           have hfz35_0 := blk_frozen BK101.out 0
           have hfz35_1 := blk_frozen BK101.out 1
           have hfz35_2 := blk_frozen BK101.out 2
           have hfz35_3 := blk_frozen BK101.out 3
           have hfz35_4 := blk_frozen BK101.out 4
           have hfz35_5 := blk_frozen BK101.out 5
           go_wp2_with (first | ((with_reducible refine gate_callee (f := 44) rfl ?_); refine goesL_ (some 32) rfl rfl Try.func44 (by kernel_rfl) rfl #[.int .i64 a0_3, .int .i64 0, .int .i64 1000] rfl (by (try simp only [List.map_toArray, List.map_cons, List.map_nil]); first | done | rfl | (simp only [List.length_drop, List.length_take]; rfl)) ?_; (with_reducible refine (bridge_between.calls a0_3 0 1000 true _ A12.out).mono ?_); rintro e w' ⟨rfl, ⟨nd, rfl⟩⟩; refine ⟨_, rfl, ?_⟩) | (go_at_call 44; (with_reducible refine (bridge_between.calls a0_5 0 4096 false _ A18.out).mono ?_); rintro e w' ⟨rfl, ⟨nd, rfl⟩⟩))
           go_ret
           exact ⟨by first | rfl | (simp [errW_none, errW_some] <;> rfl) | (simp [*, errW_none, errW_some] <;> rfl), by repeat (first | (with_reducible first | exact HB.out | apply below_alloc | apply pw_below_drewN | apply below_drew1 | refine below_set ?_ GE101.out) | exact HB.out)⟩
       ·replace c13 := Bool.eq_false_iff.mpr c13
        subst c13
        have H1 : (some 2) = some r := by rw [if_neg (show ¬ (false = true) by decide)] at H; exact H
        clear H
        have H := H1
        clear H1
        obtain rfl := Option.some.inj H
        have hcz36_0 : wc.cell? ⟨gb101, 0, none⟩ = some (.slice A0_0 l0_0.length c0_0) := (blk_cell BK101.out 0).trans rfl
        have hcz36_1 : wc.cell? ⟨gb101, 1, none⟩ = some (.slice A0_1 l0_1.length c0_1) := (blk_cell BK101.out 1).trans rfl
        have hcz36_2 : wc.cell? ⟨gb101, 2, none⟩ = some (.slice A0_2 l0_2.length c0_2) := (blk_cell BK101.out 2).trans rfl
        have hcz36_3 : wc.cell? ⟨gb101, 3, none⟩ = some (.int .i64 a0_3) := (blk_cell BK101.out 3).trans rfl
        have hcz36_4 : wc.cell? ⟨gb101, 4, none⟩ = some (.int .i64 a0_4) := (blk_cell BK101.out 4).trans rfl
        have hcz36_5 : wc.cell? ⟨gb101, 5, none⟩ = some (.int .i64 a0_5) := (blk_cell BK101.out 5).trans rfl
        have hfz36_0 := blk_frozen BK101.out 0
        have hfz36_1 := blk_frozen BK101.out 1
        have hfz36_2 := blk_frozen BK101.out 2
        have hfz36_3 := blk_frozen BK101.out 3
        have hfz36_4 := blk_frozen BK101.out 4
        have hfz36_5 := blk_frozen BK101.out 5
        go_wp2_with (first | ((with_reducible refine gate_callee (f := 44) rfl ?_); refine goesL_ (some 32) rfl rfl Try.func44 (by kernel_rfl) rfl #[.int .i64 a0_3, .int .i64 0, .int .i64 1000] rfl (by (try simp only [List.map_toArray, List.map_cons, List.map_nil]); first | done | rfl | (simp only [List.length_drop, List.length_take]; rfl)) ?_; (with_reducible refine (bridge_between.calls a0_3 0 1000 false _ A12.out).mono ?_); rintro e w' ⟨rfl, ⟨nd, rfl⟩⟩; refine ⟨_, rfl, ?_⟩))
        go_ret
        exact ⟨by first | rfl | (simp [errW_none, errW_some] <;> rfl) | (simp [*, errW_none, errW_some] <;> rfl), by repeat (first | (with_reducible first | exact HB.out | apply below_alloc | apply pw_below_drewN | apply below_drew1 | refine below_set ?_ GE101.out) | exact HB.out)⟩
end Go.Proofs.Ytiklpefckadgdaa.P
