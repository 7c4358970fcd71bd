/- The law BridgeBorne answers true at every input and leaves its arguments as they were; no condition. Part 6 of 6: the row. -/
import Derived.Test.YtiklpefckadgdaaCBridgeBorne2
import Derived.Test.YtiklpefckadgdaaCBridgeBorne3
import Derived.BigQuiet
import Derived.Deep.QuietTactic
import Derived.Test.YtiklpefckadgdaaCBridgeBorne0
import Derived.Test.YtiklpefckadgdaaCBridgeBorne1
import Derived.Test.YtiklpefckadgdaaCBridgeBorne4
import Derived.Test.YtiklpefckadgdaaRows
import Derived.WalkKit
import Derived.ProofKit
import Derived.OpenShut
import Derived.ShutString
import Derived.ChangeOld
import Derived.Below
import Derived.SizedLaws
import Derived.Carry
import Derived.Lib.SmallJoins
namespace Go.Proofs.Ytiklpefckadgdaa.P
open Go.RowKit Go.Proofs.YtiklpefckadgdaaW.PrintWords Go.Proofs.YtiklpefckadgdaaW.PrintLast Go.Proofs.YtiklpefckadgdaaW.PrintMore
set_option linter.unusedVariables false
set_option linter.unusedSimpArgs false
theorem conv_right {F : Int → Int} {B : Int → Prop} {V : Int} (hB : ∀ s, B s → F s ≤ V) (hc : ∀ s, ¬ B s → 2 * F s ≤ F (s - 1) + F (s + 1)) (s : Int) (h0 : V < F s) (h1 : F (s - 1) ≤ F s) :
  ∀ n : Nat, V < F (s + (n : Int)) ∧ F (s + (n : Int) - 1) ≤ F (s + (n : Int)) := by
 intro n
 induction n with
 | zero => simpa using ⟨h0, h1⟩
 | succ n ih =>
  obtain ⟨a, b⟩ := ih
  have hn : ¬ B (s + (n : Int)) := fun h => by have := hB _ h; omega
  have := hc _ hn
  have e : s + ((n + 1 : Nat) : Int) = s + (n : Int) + 1 := by omega
  have e2 : s + (n : Int) + 1 - 1 = s + (n : Int) := by omega
  rw [e, e2]
  omega
theorem conv_le {F : Int → Int} {B : Int → Prop} {V lo hi : Int} (hB : ∀ s, B s → F s ≤ V) (hc : ∀ s, ¬ B s → 2 * F s ≤ F (s - 1) + F (s + 1)) (h0 : ∀ s, s < lo ∨ hi < s → F s ≤ V) (s : Int) : F s ≤ V := by
 apply Decidable.byContradiction
 intro hs
 have hs : V < F s := by omega
 by_cases hd : F (s - 1) ≤ F s
 ·have := (conv_right hB hc s hs hd (hi - s).toNat.succ).1
  have h2 := h0 (s + ((hi - s).toNat.succ : Int)) (.inr (by omega))
  omega
 ·have := (conv_right (F := fun s => F (-s)) (B := fun s => B (-s)) (V := V) (fun s h => hB _ h) (fun s h => by
   have := hc _ h
   rw [show -(s - 1) = -s + 1 by omega, show -(s + 1) = -s - 1 by omega]
   omega) (-(s - 1)) (by rw [Int.neg_neg]; omega) (by
    rw [Int.neg_neg, show -(-(s - 1) - 1) = s by omega]
    omega) (s - lo).toNat.succ).1
  have h2 := h0 (-(-(s - 1) + ((s - lo).toNat.succ : Int))) (.inl (by omega))
  omega
theorem effS_nonneg {f : Int → Int} (hf : ∀ a, 0 ≤ f a) {s : Int} : ∀ {l : List S35}, (∀ x ∈ l, OkForce x) → 0 ≤ effS f s l
 | [], _ => by simp [effS]
 | x :: r, h => by
  have := effS_nonneg hf (s := s) (l := r) (fun y hy => h y (List.mem_cons_of_mem _ hy))
  have h2 := Int.mul_nonneg (h x (List.mem_cons_self ..)).2.1 (hf (s - x.f0))
  rw [effS]
  omega
theorem effS_conv {f : Int → Int} {P : Int → Prop} (hf : ∀ a, ¬ P a → 2 * f a ≤ f (a - 1) + f (a + 1)) {s : Int} : ∀ {l : List S35}, (∀ x ∈ l, OkForce x) → (∀ x ∈ l, ¬ P (s - x.f0)) → 2 * effS f s l ≤ effS f (s - 1) l + effS f (s + 1) l
 | [], _, _ => by simp [effS]
 | x :: r, h, hp => by
  have ih := effS_conv hf (s := s) (l := r) (fun y hy => h y (List.mem_cons_of_mem _ hy)) (fun y hy => hp y (List.mem_cons_of_mem _ hy))
  have h2 := Int.mul_le_mul_of_nonneg_left (hf _ (hp x (List.mem_cons_self ..))) (h x (List.mem_cons_self ..)).2.1
  rw [Int.mul_add, Int.mul_left_comm] at h2
  rw [effS, effS, effS, show s - 1 - x.f0 = s - x.f0 - 1 by omega, show s + 1 - x.f0 = s - x.f0 + 1 by omega]
  generalize x.f1 * f (s - x.f0) = p at *
  generalize x.f1 * f (s - x.f0 - 1) = q at *
  generalize x.f1 * f (s - x.f0 + 1) = r at *
  omega
theorem effS_out {f : Int → Int} {s : Int} : ∀ {l : List S35}, (∀ x ∈ l, f (s - x.f0) = 0) → effS f s l = 0
 | [], _ => rfl
 | x :: r, h => by
  rw [effS, h x (List.mem_cons_self ..), effS_out (fun y hy => h y (List.mem_cons_of_mem _ hy))]
  simp
theorem momentI_nonneg {L x : Int} (hL : 0 ≤ L) (hx : 0 ≤ x ∧ x ≤ L) (a : Int) : 0 ≤ momentI L x a := by
 unfold momentI
 split
 ·exact Int.le_refl _
 ·split
  ·exact Int.mul_nonneg (by omega) (by omega)
  ·exact Int.mul_nonneg (by omega) (by omega)
theorem endI_nonneg {L : Int} {right : Bool} (a : Int) : 0 ≤ endI L right a := by
 unfold endI
 split
 ·exact Int.le_refl _
 ·split <;> omega
theorem momentI_conv {L x : Int} (hL : 0 ≤ L) (hx : 0 ≤ x ∧ x ≤ L) (a : Int) (h : ¬ (a = 0 ∨ a = x ∨ a = L)) : 2 * momentI L x a ≤ momentI L x (a - 1) + momentI L x (a + 1) := by
 have n1 := momentI_nonneg hL hx (a - 1)
 have n2 := momentI_nonneg hL hx (a + 1)
 by_cases ho : a < 0 ∨ L < a
 ·have e : momentI L x a = 0 := by unfold momentI; rw [if_pos ho]
  rw [e]; omega
 ·clear n1 n2
  unfold momentI
  rw [if_neg ho, if_neg (show ¬ (a - 1 < 0 ∨ L < a - 1) by omega), if_neg (show ¬ (a + 1 < 0 ∨ L < a + 1) by omega)]
  by_cases hax : a ≤ x
  ·rw [if_pos hax, if_pos (show a - 1 ≤ x by omega), if_pos (show a + 1 ≤ x by omega), Int.sub_mul, Int.add_mul, Int.one_mul]
   generalize a * (L - x) = p
   omega
  ·rw [if_neg hax, if_neg (show ¬ a + 1 ≤ x by omega)]
   have e1 : x * (L - (a + 1)) = x * (L - a) - x := by rw [show L - (a + 1) = L - a - 1 by omega, Int.mul_sub, Int.mul_one]
   have e2 : x * (L - (a - 1)) = x * (L - a) + x := by rw [show L - (a - 1) = L - a + 1 by omega, Int.mul_add, Int.mul_one]
   by_cases hq : a - 1 ≤ x
   ·rw [if_pos hq, e1]
    have e3 : a - 1 = x := by omega
    have e4 : (a - 1) * (L - x) = x * (L - a) + x := by rw [← e2, e3]
    rw [e4]
    generalize x * (L - a) = p
    omega
   ·rw [if_neg hq, e1, e2]
    generalize x * (L - a) = p
    omega
theorem endI_conv {L : Int} {right : Bool} (hL : 0 ≤ L) (a : Int) (h : ¬ (a = 0 ∨ a = L)) : 2 * endI L right a ≤ endI L right (a - 1) + endI L right (a + 1) := by
 unfold endI
 cases right
 ·simp only [Bool.false_eq_true, if_false]
  split <;> split <;> split <;> omega
 ·simp only [if_true]
  split <;> split <;> split <;> omega
theorem momentWorst_all {l m s : List Int} {a b c : Int} {t : List S35} {k : Nat} {L x : Int} (h1 : errB l m s a b c = 0) (h2 : errT t = 0) (hL : 0 ≤ L ∧ L ≤ 131072) (hx : 0 ≤ x ∧ x ≤ L) (p : Int) :
  effS (fun y => momentI L x (y - startW l k)) p t ≤ (momentWorst l t k L x).f0 := by
 have hst := startW_bd h1 k
 have hne : t ≠ [] := by rintro rfl; have := (errT_zero h2).1; simp at this
 have hok := okForces h2
 have hw := (worst_val (momentW (startW l k) L x) t [startW l k, wrap64 (startW l k + x), wrap64 (startW l k + L)] (k : Int) x (breaks_ne hne)).2
 change ∀ s ∈ _, _ ≤ (momentWorst l t k L x).f0 at hw
 have hV : 0 ≤ (momentWorst l t k L x).f0 := by
  obtain ⟨p, _, e⟩ := momentWorst_bd (k := k) h1 h2 hL hx
  rw [e]
  exact effS_nonneg (fun a => momentI_nonneg hL.1 hx _) hok
 generalize (momentWorst l t k L x).f0 = V at *
 generalize startW l k = o at *
 rw [w64 (x := o + x) (by omega) (by omega), w64 (x := o + L) (by omega) (by omega)] at hw
 refine conv_le (F := fun p => effS (fun y => momentI L x (y - o)) p t) (B := fun p => ∃ y ∈ t, p - y.f0 - o = 0 ∨ p - y.f0 - o = x ∨ p - y.f0 - o = L) (V := V) (lo := o) (hi := o + L + 262144) ?_ ?_ ?_ p
 ·rintro p ⟨y, hy, hp⟩
  have hyb := (hok y hy).1
  have hb : p ∈ breaksL t [o, o + x, o + L] := by
   refine mem_breaks.2 ⟨y, hy, p - y.f0, ?_, ?_⟩
   ·simp only [List.mem_cons, List.not_mem_nil, or_false]; omega
   ·rw [show p - y.f0 + y.f0 = p by omega, w64 (by omega) (by omega)]
  have := hw p hb
  rwa [effW_moment (by omega) hL hx (by omega) h2] at this
 ·intro p hp
  refine effS_conv (P := fun y => y - o = 0 ∨ y - o = x ∨ y - o = L) (fun y hy => ?_) hok fun y hy h => hp ⟨y, hy, h⟩
  have := momentI_conv hL.1 hx (y - o) hy
  rw [show y - 1 - o = y - o - 1 by omega, show y + 1 - o = y - o + 1 by omega]
  exact this
 ·intro p hp
  have : effS (fun y => momentI L x (y - o)) p t = 0 := effS_out fun y hy => by
   have := (hok y hy).1
   show momentI L x (p - y.f0 - o) = 0
   unfold momentI
   rw [if_pos (by omega)]
  omega
theorem endWorst_all {l m s : List Int} {a b c : Int} {t : List S35} {k : Nat} {L point : Int} {right : Bool} (h1 : errB l m s a b c = 0) (h2 : errT t = 0) (hL : 0 ≤ L ∧ L ≤ 131072) (p : Int) :
  effS (fun y => endI L right (y - startW l k)) p t ≤ (endWorst l t k L right point).f0 := by
 have hst := startW_bd h1 k
 have hne : t ≠ [] := by rintro rfl; have := (errT_zero h2).1; simp at this
 have hok := okForces h2
 have hw := (worst_val (endW (startW l k) L right) t [startW l k, wrap64 (startW l k + L)] (k : Int) point (breaks_ne hne)).2
 change ∀ s ∈ _, _ ≤ (endWorst l t k L right point).f0 at hw
 have hV : 0 ≤ (endWorst l t k L right point).f0 := by
  obtain ⟨p, _, e⟩ := endWorst_bd (k := k) (point := point) (right := right) h1 h2 hL
  rw [e]
  exact effS_nonneg (fun a => endI_nonneg _) hok
 generalize (endWorst l t k L right point).f0 = V at *
 generalize startW l k = o at *
 rw [w64 (x := o + L) (by omega) (by omega)] at hw
 refine conv_le (F := fun p => effS (fun y => endI L right (y - o)) p t) (B := fun p => ∃ y ∈ t, p - y.f0 - o = 0 ∨ p - y.f0 - o = L) (V := V) (lo := o) (hi := o + L + 262144) ?_ ?_ ?_ p
 ·rintro p ⟨y, hy, hp⟩
  have hyb := (hok y hy).1
  have hb : p ∈ breaksL t [o, o + L] := by
   refine mem_breaks.2 ⟨y, hy, p - y.f0, ?_, ?_⟩
   ·simp only [List.mem_cons, List.not_mem_nil, or_false]; omega
   ·rw [show p - y.f0 + y.f0 = p by omega, w64 (by omega) (by omega)]
  have := hw p hb
  rwa [effW_end (by omega) hL (by omega) h2] at this
 ·intro p hp
  refine effS_conv (P := fun y => y - o = 0 ∨ y - o = L) (fun y hy => ?_) hok fun y hy h => hp ⟨y, hy, h⟩
  have := endI_conv (right := right) hL.1 (y - o) hy
  rw [show y - 1 - o = y - o - 1 by omega, show y + 1 - o = y - o + 1 by omega]
  exact this
 ·intro p hp
  have : effS (fun y => endI L right (y - o)) p t = 0 := effS_out fun y hy => by
   have := (hok y hy).1
   show endI L right (p - y.f0 - o) = 0
   unfold endI
   rw [if_pos (by omega)]
  omega
theorem bearsR_two (o : Option S29) : (bearsR o).2 = o.isSome := by cases o <;> rfl
def SpanFails (l0 l1 l2 : List Int) (dyn rest : Int) (t : List S35) (k : Nat) : Prop :=
 (∃ n : Nat, n < 15 ∧ failM dyn rest (rd l0 (k : Int)) (rd l1 (k : Int)) (momentWorst l0 t k (rd l0 (k : Int)) (rd l0 (k : Int) * ((n + 1 : Nat) : Int) / 16)) = true) ∨
 failE dyn rest (rd l0 (k : Int)) (rd l2 (k : Int)) (endWorst l0 t k (rd l0 (k : Int)) false (-1)) = true ∨ failE dyn rest (rd l0 (k : Int)) (rd l2 (k : Int)) (endWorst l0 t k (rd l0 (k : Int)) true (-2)) = true
theorem spanBad_iff (l0 l1 l2 : List Int) (dyn rest : Int) (t : List S35) (k : Nat) : (spanBad l0 l1 l2 dyn rest t k).isSome = true ↔ SpanFails l0 l1 l2 dyn rest t k := by
 unfold spanBad SpanFails
 cases hf : (checkedL l0 t k (rd l0 (k : Int))).find? (failM dyn rest (rd l0 (k : Int)) (rd l1 (k : Int))) with
 | some e =>
  simp only [Option.isSome_some, true_iff]
  left
  have h1 := List.find?_some hf
  have h2 := List.mem_of_find?_eq_some hf
  simp only [checkedL, List.mem_map, List.mem_range] at h2
  obtain ⟨n, hn, rfl⟩ := h2
  exact ⟨n, hn, h1⟩
 | none =>
  have h0 : ¬ ∃ n : Nat, n < 15 ∧ failM dyn rest (rd l0 (k : Int)) (rd l1 (k : Int)) (momentWorst l0 t k (rd l0 (k : Int)) (rd l0 (k : Int) * ((n + 1 : Nat) : Int) / 16)) = true := by
   rintro ⟨n, hn, h⟩
   rw [List.find?_eq_none] at hf
   refine hf _ ?_ h
   simp only [checkedL, List.mem_map, List.mem_range]
   exact ⟨n, hn, rfl⟩
  simp only [h0, false_or]
  cases h1 : failE dyn rest (rd l0 (k : Int)) (rd l2 (k : Int)) (endWorst l0 t k (rd l0 (k : Int)) false (-1))
  ·cases h2 : failE dyn rest (rd l0 (k : Int)) (rd l2 (k : Int)) (endWorst l0 t k (rd l0 (k : Int)) true (-2)) <;> simp
  ·simp
theorem bears_iff (l0 l1 l2 : List Int) (dyn lanes traffic : Int) (t : List S35) (tr : Bool) : (bearsR (bearsV l0 l1 l2 dyn lanes traffic t tr)).2 = true ↔ ∃ k, k < l0.length ∧ SpanFails l0 l1 l2 dyn (restV lanes traffic tr) t k := by
 rw [bearsR_two]
 unfold bearsV
 rw [List.findSome?_isSome_iff]
 constructor
 ·rintro ⟨k, hk, h⟩
  exact ⟨k, List.mem_range.1 hk, (spanBad_iff ..).1 h⟩
 ·rintro ⟨k, hk, h⟩
  exact ⟨k, List.mem_range.2 hk, (spanBad_iff ..).2 h⟩
def LeT : List S35 → List S35 → Prop
 | [], [] => True
 | x :: r, y :: q => x.f0 = y.f0 ∧ x.f1 ≤ y.f1 ∧ LeT r q
 | _, _ => False
theorem LeT.refl : ∀ t, LeT t t
 | [] => trivial
 | x :: r => ⟨rfl, Int.le_refl _, LeT.refl r⟩
theorem LeT.breaks {ks : List Int} : ∀ {t u : List S35}, LeT t u → breaksL t ks = breaksL u ks
 | [], [], _ => rfl
 | x :: r, y :: q, h => by
  have := LeT.breaks (ks := ks) h.2.2
  simp only [breaksL, breakRow, List.flatMap_cons, h.1] at this ⊢
  rw [this]
 | [], _ :: _, h => h.elim
 | _ :: _, [], h => h.elim
theorem LeT.eff {f : Int → Int} (hf : ∀ a, 0 ≤ f a) {s : Int} : ∀ {t u : List S35}, LeT t u → effS f s t ≤ effS f s u
 | [], [], _ => Int.le_refl _
 | x :: r, y :: q, h => by
  have := LeT.eff hf (s := s) h.2.2
  have h2 := Int.mul_le_mul_of_nonneg_right h.2.1 (hf (s - x.f0))
  rw [effS, effS, ← h.1]
  omega
 | [], _ :: _, h => h.elim
 | _ :: _, [], h => h.elim
theorem place_of {l : List S35} {ks : List Int} {s : Int} (h : errT l = 0) (hk : ∀ k ∈ ks, 0 ≤ k ∧ k ≤ 1179648) (hs : s ∈ breaksL l ks) : 0 ≤ s ∧ s ≤ 1441792 := by
 obtain ⟨y, hy, q, hq, rfl⟩ := mem_breaks.1 hs
 obtain ⟨e1, e2⟩ := place_bd (okForces h y hy) (hk q hq)
 rw [e1]; exact e2
theorem momentWorst_mono {l m s : List Int} {a b c : Int} {t u : List S35} {k : Nat} {L x : Int} (h1 : errB l m s a b c = 0) (h2 : errT t = 0) (h3 : errT u = 0) (hle : LeT t u) (hL : 0 ≤ L ∧ L ≤ 131072) (hx : 0 ≤ x ∧ x ≤ L) :
  (momentWorst l t k L x).f0 ≤ (momentWorst l u k L x).f0 ∧ (momentWorst l t k L x).f2 = x ∧ (momentWorst l u k L x).f2 = x := by
 have hst := startW_bd h1 k
 have hne : t ≠ [] := by rintro rfl; have := (errT_zero h2).1; simp at this
 have hne' : u ≠ [] := by rintro rfl; have := (errT_zero h3).1; simp at this
 refine ⟨worst_le (breaks_ne hne) (breaks_ne hne') fun p hp => ⟨p, hle.breaks ▸ hp, ?_⟩, ?_, ?_⟩
 ·have hb := place_of h2 (fun q hq => by
   rw [w64 (x := startW l k + x) (by omega) (by omega), w64 (x := startW l k + L) (by omega) (by omega)] at hq
   simp only [List.mem_cons, List.not_mem_nil, or_false] at hq
   omega) hp
  rw [effW_moment (by omega) hL hx (by omega) h2, effW_moment (by omega) hL hx (by omega) h3]
  exact hle.eff fun y => momentI_nonneg hL.1 hx _
 ·obtain ⟨_, _, e⟩ := momentWorst_bd (k := k) h1 h2 hL hx; rw [e]
 ·obtain ⟨_, _, e⟩ := momentWorst_bd (k := k) h1 h3 hL hx; rw [e]
theorem endWorst_mono {l m s : List Int} {a b c : Int} {t u : List S35} {k : Nat} {L point : Int} {right : Bool} (h1 : errB l m s a b c = 0) (h2 : errT t = 0) (h3 : errT u = 0) (hle : LeT t u) (hL : 0 ≤ L ∧ L ≤ 131072) :
  (endWorst l t k L right point).f0 ≤ (endWorst l u k L right point).f0 := by
 have hst := startW_bd h1 k
 have hne : t ≠ [] := by rintro rfl; have := (errT_zero h2).1; simp at this
 have hne' : u ≠ [] := by rintro rfl; have := (errT_zero h3).1; simp at this
 refine worst_le (breaks_ne hne) (breaks_ne hne') fun p hp => ⟨p, hle.breaks ▸ hp, ?_⟩
 have hb := place_of h2 (fun q hq => by
  rw [w64 (x := startW l k + L) (by omega) (by omega)] at hq
  simp only [List.mem_cons, List.not_mem_nil, or_false] at hq
  omega) hp
 rw [effW_end (by omega) hL (by omega) h2, effW_end (by omega) hL (by omega) h3]
 exact hle.eff fun y => endI_nonneg _
theorem share_mono2 {a b p q d : Int} (ha : 0 ≤ a) (hab : a ≤ b) (hp : 0 ≤ p) (hpq : p ≤ q) (hd : 1 ≤ d) : shareZ a p d ≤ shareZ b q d := by
 have h0 : 0 ≤ a * p := Int.mul_nonneg ha hp
 have h1 : a * p ≤ b * q := Int.mul_le_mul hab hpq hp (by omega)
 rw [shareZ_up h0 hd, shareZ_up (by omega) hd]
 exact Int.ediv_le_ediv (by omega) (by omega)
theorem failM_mono {dyn dyn' rest rest' L M : Int} {e e' : S29} (hd : 0 ≤ dyn ∧ dyn ≤ dyn') (hr : 0 ≤ rest ∧ rest ≤ rest') (hL : 1 ≤ L) (h0 : 0 ≤ e.f0 ∧ e.f0 ≤ e'.f0) (h2 : e.f2 = e'.f2) (hx : 0 ≤ e.f2 ∧ e.f2 ≤ L)
  (h : failM dyn rest L M e = true) : failM dyn' rest' L M e' = true := by
 unfold failM at h ⊢
 rw [decide_eq_true_eq] at h ⊢
 rw [← h2]
 have s1 := share_mono2 (a := 1000 + dyn) (b := 1000 + dyn') (p := e.f0) (q := e'.f0) (d := 1000 * L) (by omega) (by omega) h0.1 h0.2 (by omega)
 have u1 := upI_mono (Int.mul_le_mul_of_nonneg_right (Int.mul_le_mul_of_nonneg_right hr.2 hx.1) (show 0 ≤ L - e.f2 by omega)) (show (1 : Int) ≤ 2000 by decide)
 omega
theorem failE_mono {dyn dyn' rest rest' L M : Int} {e e' : S29} (hd : 0 ≤ dyn ∧ dyn ≤ dyn') (hr : 0 ≤ rest ∧ rest ≤ rest') (hL : 1 ≤ L) (h0 : 0 ≤ e.f0 ∧ e.f0 ≤ e'.f0)
  (h : failE dyn rest L M e = true) : failE dyn' rest' L M e' = true := by
 unfold failE at h ⊢
 rw [decide_eq_true_eq] at h ⊢
 have s1 := share_mono2 (a := 1000 + dyn) (b := 1000 + dyn') (p := e.f0) (q := e'.f0) (d := 1000 * L) (by omega) (by omega) h0.1 h0.2 (by omega)
 have u1 := upI_mono (Int.mul_le_mul_of_nonneg_right hr.2 (show 0 ≤ L by omega)) (show (1 : Int) ≤ 2000 by decide)
 omega
theorem point_bd {L : Int} (hL : 0 ≤ L) {n : Nat} (hn : n < 15) : 0 ≤ L * ((n + 1 : Nat) : Int) / 16 ∧ L * ((n + 1 : Nat) : Int) / 16 ≤ L := by
 have hp : 0 ≤ L * ((n + 1 : Nat) : Int) := Int.mul_nonneg hL (by omega)
 have hp2 : L * ((n + 1 : Nat) : Int) ≤ L * 16 := Int.mul_le_mul_of_nonneg_left (by omega) hL
 refine ⟨Int.ediv_nonneg hp (by decide), ?_⟩
 have := Int.ediv_le_ediv (show (0 : Int) < 16 by decide) hp2
 rwa [Int.mul_ediv_cancel _ (by decide)] at this
theorem moment_pos {l m s : List Int} {a b c : Int} {t : List S35} {k : Nat} {L x : Int} (h1 : errB l m s a b c = 0) (h2 : errT t = 0) (hL : 0 ≤ L ∧ L ≤ 131072) (hx : 0 ≤ x ∧ x ≤ L) : 0 ≤ (momentWorst l t k L x).f0 := by
 obtain ⟨p, _, e⟩ := momentWorst_bd (k := k) h1 h2 hL hx
 rw [e]
 exact effS_nonneg (fun a => momentI_nonneg hL.1 hx _) (okForces h2)
theorem end_pos {l m s : List Int} {a b c : Int} {t : List S35} {k : Nat} {L point : Int} {right : Bool} (h1 : errB l m s a b c = 0) (h2 : errT t = 0) (hL : 0 ≤ L ∧ L ≤ 131072) : 0 ≤ (endWorst l t k L right point).f0 := by
 obtain ⟨p, _, e⟩ := endWorst_bd (k := k) (point := point) (right := right) h1 h2 hL
 rw [e]
 exact effS_nonneg (fun a => endI_nonneg _) (okForces h2)
theorem rd_span {l m s : List Int} {a b c : Int} (h1 : errB l m s a b c = 0) {k : Nat} (hk : k < l.length) : 100 ≤ rd l (k : Int) ∧ rd l (k : Int) ≤ 131072 := by
 rw [rd_get _ _ hk]
 exact spansOk_get (errB_zero h1).2.2.2.2.2.2.2 k hk
theorem bears_mono {l m s : List Int} {a a' b c c' : Int} {t u : List S35} {tr tr' : Bool} (h1 : errB l m s a b c = 0) (h1' : errB l m s a' b c' = 0) (ha : a ≤ a') (hc : c ≤ c') (h2 : errT t = 0) (h3 : errT u = 0) (hle : LeT t u) (htr : tr = true → tr' = true)
  (h : (bearsR (bearsV l m s a b c t tr)).2 = true) : (bearsR (bearsV l m s a' b c' u tr')).2 = true := by
 rw [bears_iff] at h ⊢
 obtain ⟨k, hk, h⟩ := h
 have hL := rd_span h1 hk
 have hr0 := (restV_bd h1 tr).1
 have hr : restV b c tr ≤ restV b c' tr' := by
  have hb := (errB_zero h1).2.2.2.2.2.1
  cases tr with
  | false => exact Int.le_trans (by simp [restV]) (restV_bd h1' tr').1
  | true =>
   rw [htr rfl]
   simp only [restV, if_true]
   exact Int.mul_le_mul_of_nonneg_left hc (by omega)
 have ha0 := (errB_zero h1).2.2.2.2.1
 refine ⟨k, hk, ?_⟩
 rcases h with ⟨n, hn, h⟩ | h | h
 ·left
  refine ⟨n, hn, ?_⟩
  have hx := point_bd (L := rd l (k : Int)) (by omega) hn
  obtain ⟨m1, m2, m3⟩ := momentWorst_mono (k := k) h1 h2 h3 hle (show 0 ≤ rd l (k : Int) ∧ rd l (k : Int) ≤ 131072 by omega) hx
  exact failM_mono ⟨ha0.1, ha⟩ ⟨hr0, hr⟩ (by omega) ⟨moment_pos h1 h2 (by omega) hx, m1⟩ (by rw [m2, m3]) (by rw [m2]; exact hx) h
 ·right; left
  exact failE_mono ⟨ha0.1, ha⟩ ⟨hr0, hr⟩ (by omega) ⟨end_pos h1 h2 (by omega), endWorst_mono h1 h2 h3 hle (by omega)⟩ h
 ·right; right
  exact failE_mono ⟨ha0.1, ha⟩ ⟨hr0, hr⟩ (by omega) ⟨end_pos h1 h2 (by omega), endWorst_mono h1 h2 h3 hle (by omega)⟩ h
end Go.Proofs.Ytiklpefckadgdaa.P
namespace Go.Proofs.Ytiklpefckadgdaa.P
open Go.RowKit Go.Proofs.YtiklpefckadgdaaW.PrintWords Go.Proofs.YtiklpefckadgdaaW.PrintLast Go.Proofs.YtiklpefckadgdaaW.PrintMore
set_option linter.unusedVariables false
set_option linter.unusedSimpArgs false
def inRc (x lo hi : Int) : Bool := decide (lo ≤ x) && decide (x ≤ hi)
theorem within_c (x lo hi : Int) : gooseneckref06_within.f x lo hi = some (inRc x lo hi) := by
 unfold gooseneckref06_within.f inRc; split <;> rename_i h
 ·have : lo ≤ x := h
  simp [this]
 ·have : ¬ lo ≤ x := h
  simp [this]
def ctBad (l : List S35) (i : Nat) : Bool :=
 (decide (i = 0) && decide ((rd_T35 l (i : Int)).f0 ≠ 0)) || (decide (0 < i) && decide ((rd_T35 l (i : Int)).f0 < (rd_T35 l ((i : Int) - 1)).f0)) || !inRc (rd_T35 l (i : Int)).f0 0 262144 || !inRc (rd_T35 l (i : Int)).f1 0 1048576
def gooseneckref06_CheckTrain.f (l0 : List S35) : Option Int := some (if l0.length < 1 ∨ 64 < l0.length then 6 else if (List.range l0.length).any (ctBad l0) then 2 else 0)
theorem within_q {x lo hi : Int} {b : Bool} (h : inRc x lo hi = b) (w : World) (n : Nat) : Calls Try.prog 57 #[.int .i64 x, .int .i64 lo, .int .i64 hi] (w.drewN n) fun e w'' => e = .returned (.bool b) ∧ ∃ m, w'' = w.drewN m := by
 refine Calls.quiet_of ?_
 refine (gooseneckref06_within.calls x lo hi b _ (by rw [within_c, h])).mono ?_
 rintro e w' ⟨rfl, ⟨nd, rfl⟩⟩
 exact ⟨rfl, nd, rfl⟩
theorem any_bad {l : List S35} {i : Nat} (hi : i < l.length) (h : ctBad l i = true) : (List.range l.length).any (ctBad l) = true := List.any_eq_true.2 ⟨i, List.mem_range.2 hi, h⟩
theorem none_bad {l : List S35} (h : ∀ j, j < l.length → ctBad l j = false) : (List.range l.length).any (ctBad l) = false := by
 rw [List.any_eq_false]
 intro j hj
 rw [h j (List.mem_range.1 hj)]; decide
theorem ctBad_eq {l : List S35} {i x p y : Int} (h0 : 0 ≤ i) (hx : (rd_T35 l i).f0 = x) (hp : (rd_T35 l i).f1 = p) (hy : (rd_T35 l (i - 1)).f0 = y) :
  ctBad l i.toNat = ((decide (i = 0) && decide (x ≠ 0)) || (decide (0 < i) && decide (x < y)) || !inRc x 0 262144 || !inRc p 0 1048576) := by
 have e : (i.toNat : Int) = i := by omega
 unfold ctBad
 rw [e, hx, hp, hy]
 have e1 : decide (i.toNat = 0) = decide (i = 0) := by rw [decide_eq_decide]; omega
 have e2 : decide (0 < i.toNat) = decide (0 < i) := by rw [decide_eq_decide]; omega
 rw [e1, e2]
set_option maxHeartbeats 3000000 in
set_option maxRecDepth 100000 in
theorem gooseneckref06_CheckTrain.calls (A0 : Option Addr) (c0 : Nat) (l0 : List (S35)) (r : Int) (w : World) (hr0 : Kd.C k35 w A0 l0.length l0) (hc0 : l0.length ≤ c0) (h : gooseneckref06_CheckTrain.f l0 = some r) :
  Calls Try.prog 56 #[.slice A0 l0.length c0] w fun e w' => e = .returned (.int .i64 r) ∧ Below w.heap.size w w' := by
 have HR0 := Aside0.mk hr0
 have HC0 := Aside0.mk hc0
 clear hr0 hc0
 have HB := Aside0.mk (Below.refl w.heap.size w)
 have H : (if l0.length < 1 ∨ 64 < l0.length then 6 else if (List.range l0.length).any (ctBad l0) then 2 else 0) = r := by simpa [gooseneckref06_CheckTrain.f] using h
 clear h
 by_cases c1 : l0.length < 1
 ·rw [if_pos (.inl c1)] at H
  subst H
  have c3b0 : decide ((l0.length : Int) < 1) = true := decide_eq_true (by omega)
  have c3b1 : decide (l0.length < 1) = true := decide_eq_true (by omega)
  clear c1
  go_enter Try.func56, Try.ntmps56
  go_wp2
  go_ret
  exact ⟨rfl, by repeat (first | exact HB.out | apply below_alloc | apply pw_below_drewN | apply below_drew1)⟩
 ·have c3b0 : decide ((l0.length : Int) < 1) = false := decide_eq_false (by omega)
  have c3b1 : decide (l0.length < 1) = false := decide_eq_false (by omega)
  by_cases c2 : 64 < l0.length
  ·rw [if_pos (.inr c2)] at H
   subst H
   have c4b0 : decide (64 < (l0.length : Int)) = true := decide_eq_true (by omega)
   have c4b1 : decide (64 < l0.length) = true := decide_eq_true (by omega)
   clear c1 c2
   go_enter Try.func56, Try.ntmps56
   go_wp2
   go_ret
   exact ⟨rfl, by repeat (first | exact HB.out | apply below_alloc | apply pw_below_drewN | apply below_drew1)⟩
  ·rw [if_neg (by omega)] at H
   have c4b0 : decide (64 < (l0.length : Int)) = false := decide_eq_false (by omega)
   have c4b1 : decide (64 < l0.length) = false := decide_eq_false (by omega)
   have H' := Aside0.mk H
   have HL := Aside0.mk (show l0.length ≤ 64 by omega)
   clear H c1 c2
   go_enter Try.func56, Try.ntmps56
   go_wp2
   go_loopg [3] l0.length (fun kq v3 w' => ∃ i : Int, v3 = .int .i64 i ∧ Aside0 (0 ≤ i ∧ i + kq = l0.length) ∧ Aside0 (∀ j, j < i.toNat → ctBad l0 j = false) ∧ Aside0 (Below w.heap.size w w'))
   case atStart => exact ⟨0, rfl, ⟨by omega, by omega⟩, ⟨fun j hj => absurd hj (Nat.not_lt_zero j)⟩, ⟨by repeat (first | exact HB.out | apply below_alloc | apply pw_below_drewN | apply below_drew1)⟩⟩
   case round =>
    clear c3b0 c3b1 c4b0 c4b1 HB
    obtain ⟨i, rfl, HK, HA, HB⟩ := hrel
    by_cases c5 : i < (l0.length : Int)
    ·skip
     have hi0 := HK.out.1
     have clt : decide (i < (l0.length : Int)) = true := decide_eq_true c5
     obtain ⟨x, hx⟩ : ∃ x, (rd_T35 l0 i).f0 = x := ⟨_, rfl⟩
     obtain ⟨p, hp⟩ : ∃ p, (rd_T35 l0 i).f1 = p := ⟨_, rfl⟩
     obtain ⟨y, hy⟩ : ∃ y, (rd_T35 l0 (i - 1)).f0 = y := ⟨_, rfl⟩
     have BAD := Aside0.mk (ctBad_eq hi0 hx hp hy)
     obtain ⟨b1, hb1⟩ : ∃ b, inRc x 0 262144 = b := ⟨_, rfl⟩
     obtain ⟨b2, hb2⟩ : ∃ b, inRc p 0 1048576 = b := ⟨_, rfl⟩
     have W1 := Aside0.mk hb1
     have W2 := Aside0.mk hb2
     rw [hb1, hb2] at BAD
     clear hb1 hb2
     obtain ⟨ad, e1, hx0, hx1⟩ := at_T35 HR0.out i hi0 c5
     cases e1
     rw [hx] at hx0; rw [hp] at hx1
     have HW0 := Aside0.mk hx0
     have HW1 := Aside0.mk hx1
     replace hx0 := (HB.out.cell (World.block_lt_of_cell? w _ hx0)).trans hx0
     replace hx1 := (HB.out.cell (World.block_lt_of_cell? w _ hx1)).trans hx1
     have q1 := eq_true hi0
     have q2 := eq_true c5
     by_cases c6 : i = 0
     ·have k1 : (i == 0) = true := beq_iff_eq.mpr c6
      have k2 : decide (0 < i) = false := decide_eq_false (by omega)
      have k3 : decide (i = 0) = true := decide_eq_true c6
      clear c6
      by_cases c7 : x = 0
      ·have k4 : (x != 0) = false := bne_eq_false_iff_eq.mpr c7
       have k5 : decide (x ≠ 0) = false := decide_eq_false (fun g => g c7)
       have k6 : decide (x = 0) = true := decide_eq_true c7
       clear c7
       cases b1 with
       | false =>
        have H := H'.out
        rw [if_pos (any_bad (i := i.toNat) (by omega) (by rw [BAD.out]; simp [*]))] at H
        subst H
        clear H' BAD
        clear hx hp hy c5
        go_wp2
        go_quiet ((go_at_call 57; exact within_q (by first | with_reducible exact W1.out | with_reducible exact W2.out) _ _))
        go_wp2
        go_ret
        exact ⟨rfl, by repeat (first | exact HB.out | apply below_alloc | apply pw_below_drewN | apply below_drew1)⟩
       | true =>
        cases b2 with
        | false =>
         have H := H'.out
         rw [if_pos (any_bad (i := i.toNat) (by omega) (by rw [BAD.out]; simp [*]))] at H
         subst H
         clear H' BAD
         clear hx hp hy c5
         go_wp2
         go_quiet ((go_at_call 57; exact within_q (by first | with_reducible exact W1.out | with_reducible exact W2.out) _ _))
         go_wp2
         go_ret
         exact ⟨rfl, by repeat (first | exact HB.out | apply below_alloc | apply pw_below_drewN | apply below_drew1)⟩
        | true =>
         have G : ctBad l0 i.toNat = false := by rw [BAD.out]; simp [*]
         have HN := Aside0.mk G
         have HI := Aside0.mk c5
         clear G BAD
         clear hx hp hy c5
         go_wp2
         go_quiet ((go_at_call 57; exact within_q (by first | with_reducible exact W1.out | with_reducible exact W2.out) _ _))
         go_wp2
         go_roundg (gk - 1)
         case measure => have := HK.out; have := HI.out; omega
         case rel => exact ⟨i + 1, by rw [show wrap64 (i + 1) = i + 1 by have := HK.out; have := HL.out; unfold wrap64; omega], ⟨by have := HK.out; have := HI.out; omega⟩, ⟨fun j hj => by
        by_cases e : j = i.toNat
        ·subst e; exact HN.out
        ·exact HA.out j (by have := HK.out; omega)⟩, ⟨by repeat (first | exact HB.out | apply below_alloc | apply pw_below_drewN | apply below_drew1)⟩⟩
      ·have k4 : (x != 0) = true := bne_iff_ne.mpr c7
       have k5 : decide (x ≠ 0) = true := decide_eq_true c7
       have k6 : decide (x = 0) = false := decide_eq_false c7
       clear c7
       have H := H'.out
       rw [if_pos (any_bad (i := i.toNat) (by omega) (by rw [BAD.out]; simp [*]))] at H
       subst H
       clear H' BAD
       clear hx hp hy c5
       go_wp2
       go_quiet ((go_at_call 57; exact within_q (by first | with_reducible exact W1.out | with_reducible exact W2.out) _ _))
       go_wp2
       go_ret
       exact ⟨rfl, by repeat (first | exact HB.out | apply below_alloc | apply pw_below_drewN | apply below_drew1)⟩
     ·have k1 : (i == 0) = false := beq_eq_false_iff_ne.mpr c6
      have k2 : decide (0 < i) = true := decide_eq_true (by omega)
      have k3 : decide (i = 0) = false := decide_eq_false c6
      obtain ⟨kp, hkp⟩ : ∃ kp : Int, i - 1 = kp := ⟨_, rfl⟩
      rw [hkp] at hy
      have hkw : IntKind.i64.wrap (i - 1) = kp := by rw [i64_w, ← hkp]; have := HK.out; have := HL.out; unfold wrap64; omega
      have hk0 : 0 ≤ kp := by omega
      have hk1 : kp < (l0.length : Int) := by omega
      obtain ⟨ad2, e2, hy0, hy1⟩ := at_T35 HR0.out kp hk0 hk1
      obtain rfl : ad = ad2 := by injection e2
      rw [hy] at hy0
      replace hy0 := (HB.out.cell (World.block_lt_of_cell? w _ hy0)).trans hy0
      replace hy1 := (HB.out.cell (World.block_lt_of_cell? w _ hy1)).trans hy1
      have q3 := eq_true hk0
      have q4 := eq_true hk1
      clear hkp c6 e2
      by_cases c7 : x < y
      ·have k4 : decide (x < y) = true := decide_eq_true c7
       clear c7
       have H := H'.out
       rw [if_pos (any_bad (i := i.toNat) (by omega) (by rw [BAD.out]; simp [*]))] at H
       subst H
       clear H' BAD
       clear hx hp hy c5
       go_wp2
       go_quiet ((go_at_call 57; exact within_q (by first | with_reducible exact W1.out | with_reducible exact W2.out) _ _))
       go_wp2
       go_ret
       exact ⟨rfl, by repeat (first | exact HB.out | apply below_alloc | apply pw_below_drewN | apply below_drew1)⟩
      ·have k4 : decide (x < y) = false := decide_eq_false c7
       clear c7
       cases b1 with
       | false =>
        have H := H'.out
        rw [if_pos (any_bad (i := i.toNat) (by omega) (by rw [BAD.out]; simp [*]))] at H
        subst H
        clear H' BAD
        clear hx hp hy c5
        go_wp2
        go_quiet ((go_at_call 57; exact within_q (by first | with_reducible exact W1.out | with_reducible exact W2.out) _ _))
        go_wp2
        go_ret
        exact ⟨rfl, by repeat (first | exact HB.out | apply below_alloc | apply pw_below_drewN | apply below_drew1)⟩
       | true =>
        cases b2 with
        | false =>
         have H := H'.out
         rw [if_pos (any_bad (i := i.toNat) (by omega) (by rw [BAD.out]; simp [*]))] at H
         subst H
         clear H' BAD
         clear hx hp hy c5
         go_wp2
         go_quiet ((go_at_call 57; exact within_q (by first | with_reducible exact W1.out | with_reducible exact W2.out) _ _))
         go_wp2
         go_ret
         exact ⟨rfl, by repeat (first | exact HB.out | apply below_alloc | apply pw_below_drewN | apply below_drew1)⟩
        | true =>
         have G : ctBad l0 i.toNat = false := by rw [BAD.out]; simp [*]
         have HN := Aside0.mk G
         have HI := Aside0.mk c5
         clear G BAD
         clear hx hp hy c5
         go_wp2
         go_quiet ((go_at_call 57; exact within_q (by first | with_reducible exact W1.out | with_reducible exact W2.out) _ _))
         go_wp2
         go_roundg (gk - 1)
         case measure => have := HK.out; have := HI.out; omega
         case rel => exact ⟨i + 1, by rw [show wrap64 (i + 1) = i + 1 by have := HK.out; have := HL.out; unfold wrap64; omega], ⟨by have := HK.out; have := HI.out; omega⟩, ⟨fun j hj => by
        by_cases e : j = i.toNat
        ·subst e; exact HN.out
        ·exact HA.out j (by have := HK.out; omega)⟩, ⟨by repeat (first | exact HB.out | apply below_alloc | apply pw_below_drewN | apply below_drew1)⟩⟩
    ·have clt : decide (i < (l0.length : Int)) = false := decide_eq_false c5
     have H := H'.out
     rw [if_neg (by rw [none_bad (fun j hj => HA.out j (by have := HK.out; omega))]; decide)] at H
     subst H
     clear H' c5
     go_wp2
     go_ret
     exact ⟨rfl, by repeat (first | exact HB.out | apply below_alloc | apply pw_below_drewN | apply below_drew1)⟩
end Go.Proofs.Ytiklpefckadgdaa.P
noncomputable section
namespace Go.Proofs.Ytiklpefckadgdaa.P
open Go.RowKit Go.Proofs.YtiklpefckadgdaaW.PrintWords Go.Proofs.YtiklpefckadgdaaW.PrintLast Go.Proofs.YtiklpefckadgdaaW.PrintMore
attribute [local go_sem] max2_int min2_int max_two min_two max_three min_three max_four min_four   -- for this text's walks alone
set_option linter.unusedVariables false
set_option linter.unusedSimpArgs false
def gooseneckref06_CheckPavement.f (a0_0 : Int) (a0_1 : Int) (a0_2 : Int) : Option (Int) := (gooseneckref06_within.f a0_0 1 1048576).bind fun t102 => (if t102 = true then ((gooseneckref06_within.f a0_1 1 1048576).bind fun t103 => (if t103 = true then (if a0_2 < 1 then (some 2) else (if a0_2 > 6 then (some 2) else (some 0))) else (some 2))) else (some 2))
set_option maxHeartbeats 8000000 in
set_option maxRecDepth 100000 in
theorem gooseneckref06_CheckPavement.calls (a0_0 : Int) (a0_1 : Int) (a0_2 : Int) (r : Int) (w : World) (h : gooseneckref06_CheckPavement.f a0_0 a0_1 a0_2 = some r) :
  Calls Try.prog 25 #[.agg #[.int .i64 a0_0, .int .i64 a0_1, .int .i64 a0_2]] w fun e w' => e = .returned (.int .i64 r) ∧ Below w.heap.size w w' := by
 have hu43 := Try.underlying43
 have HB := Aside0.mk (Below.refl w.heap.size w)
 have H : ((gooseneckref06_within.f a0_0 1 1048576).bind fun t102 => (if t102 = true then ((gooseneckref06_within.f a0_1 1 1048576).bind fun t103 => (if t103 = true then (if a0_2 < 1 then (some 2) else (if a0_2 > 6 then (some 2) else (some 0))) else (some 2))) else (some 2))) = some r := h
 clear h
 replace H := Option.bind_eq_some_iff.mp H
 obtain ⟨t102, A20, H⟩ := H
 replace H : (if t102 = true then ((gooseneckref06_within.f a0_1 1 1048576).bind fun t103 => (if t103 = true then (if a0_2 < 1 then (some 2) else (if a0_2 > 6 then (some 2) else (some 0))) else (some 2))) else (some 2)) = some r := H
 have A2 := Aside0.mk A20
 clear A20
 by_cases c3 : t102 = true
 ·subst c3
  have H1 : ((gooseneckref06_within.f a0_1 1 1048576).bind fun t103 => (if t103 = true then (if a0_2 < 1 then (some 2) else (if a0_2 > 6 then (some 2) else (some 0))) else (some 2))) = some r := by rw [if_pos rfl] at H; exact H
  clear H
  have H := H1
  clear H1
  replace H := Option.bind_eq_some_iff.mp H
  obtain ⟨t103, A40, H⟩ := H
  replace H : (if t103 = true then (if a0_2 < 1 then (some 2) else (if a0_2 > 6 then (some 2) else (some 0))) else (some 2)) = some r := H
  have A4 := Aside0.mk A40
  clear A40
  by_cases c5 : t103 = true
  ·subst c5
   have H1 : (if a0_2 < 1 then (some 2) else (if a0_2 > 6 then (some 2) else (some 0))) = some r := by rw [if_pos rfl] at H; exact H
   clear H
   have H := H1
   clear H1
   by_cases c6 : a0_2 < 1
   ·rw [if_pos c6] at H
    have c6b0 : decide (a0_2 < 1) = true := decide_eq_true c6
    clear c6
    obtain rfl := Option.some.inj H
    go_enter Try.func25, Try.ntmps25
    go_wp2_with (first | ((with_reducible refine gate_dst (N := 1) rfl ?_); refine box_event ?hg (N := 1) ?hd (cs := #[.int .i64 a0_0, .int .i64 a0_1, .int .i64 a0_2]) (t := 43) ?hr ?_; (case hd => rfl); (case hg => rfl); (case hr => first | (go_simp; done) | (go_simp; rfl)); intro gb101 hg w7 hbox hb; have n0_ := Aside0.mk (below_step (by repeat (first | (with_reducible first | exact HB.out | apply below_alloc | apply pw_below_drewN | apply below_drew1) | exact HB.out)) hb); have n1_ := Aside0.mk (hbox); have n2_ := Aside0.mk ((by rw [hg]; exact (below_size (by repeat (first | (with_reducible first | exact HB.out | apply below_alloc | apply pw_below_drewN | apply below_drew1) | exact HB.out))) : w.heap.size ≤ gb101)); have n3_ := Aside0.mk ((by rw [hg]; exact (below_size (by repeat (first | (with_reducible first | exact HB.out | apply below_alloc | apply pw_below_drewN | apply below_drew1) | exact HB.out))) : w.heap.size ≤ gb101)); clear HB; have HB := n0_; have BK101 := n1_; have GW101 := n2_; have GE101 := n3_; clear n0_ n1_ n2_ n3_; clear hb hbox hg; have hcz8_0 : w7.cell? ⟨gb101, 0, none⟩ = some (.int .i64 a0_0) := (blk_cell BK101.out 0).trans rfl; have hcz8_1 : w7.cell? ⟨gb101, 1, none⟩ = some (.int .i64 a0_1) := (blk_cell BK101.out 1).trans rfl; have hcz8_2 : w7.cell? ⟨gb101, 2, none⟩ = some (.int .i64 a0_2) := (blk_cell BK101.out 2).trans rfl; have hfz8_0 := blk_frozen BK101.out 0; have hfz8_1 := blk_frozen BK101.out 1; have hfz8_2 := blk_frozen BK101.out 2) | ((with_reducible refine gate_callee (f := 57) rfl ?_); refine goesL_ (some 5) rfl rfl Try.func57 (by kernel_rfl) rfl #[.int .i64 a0_0, .int .i64 1, .int .i64 1048576] rfl (by (try simp only [List.map_toArray, List.map_cons, List.map_nil]); first | done | rfl | (simp only [List.length_drop, List.length_take]; rfl)) ?_; (with_reducible refine (gooseneckref06_within.calls a0_0 1 1048576 true _ A2.out).mono ?_); rintro e w' ⟨rfl, ⟨nd, rfl⟩⟩; refine ⟨_, rfl, ?_⟩) | (go_at_call 57; (with_reducible refine (gooseneckref06_within.calls a0_1 1 1048576 true _ A4.out).mono ?_); rintro e w' ⟨rfl, ⟨nd, rfl⟩⟩))
    go_ret
    exact ⟨by first | rfl | (simp [errW_none, errW_some] <;> rfl) | (simp [*, errW_none, errW_some] <;> rfl), by repeat (first | (with_reducible first | exact HB.out | apply below_alloc | apply pw_below_drewN | apply below_drew1 | refine below_set ?_ GE101.out) | exact HB.out)⟩
   ·rw [if_neg c6] at H
    have c6b0 : decide (a0_2 < 1) = false := decide_eq_false c6
    clear c6
    by_cases c9 : a0_2 > 6
    ·rw [if_pos c9] at H
     have c9b0 : decide (6 < a0_2) = true := decide_eq_true c9
     clear c9
     obtain rfl := Option.some.inj H
     go_enter Try.func25, Try.ntmps25
     go_wp2_with (first | ((with_reducible refine gate_dst (N := 1) rfl ?_); refine box_event ?hg (N := 1) ?hd (cs := #[.int .i64 a0_0, .int .i64 a0_1, .int .i64 a0_2]) (t := 43) ?hr ?_; (case hd => rfl); (case hg => rfl); (case hr => first | (go_simp; done) | (go_simp; rfl)); intro gb101 hg w10 hbox hb; have n0_ := Aside0.mk (below_step (by repeat (first | (with_reducible first | exact HB.out | apply below_alloc | apply pw_below_drewN | apply below_drew1) | exact HB.out)) hb); have n1_ := Aside0.mk (hbox); have n2_ := Aside0.mk ((by rw [hg]; exact (below_size (by repeat (first | (with_reducible first | exact HB.out | apply below_alloc | apply pw_below_drewN | apply below_drew1) | exact HB.out))) : w.heap.size ≤ gb101)); have n3_ := Aside0.mk ((by rw [hg]; exact (below_size (by repeat (first | (with_reducible first | exact HB.out | apply below_alloc | apply pw_below_drewN | apply below_drew1) | exact HB.out))) : w.heap.size ≤ gb101)); clear HB; have HB := n0_; have BK101 := n1_; have GW101 := n2_; have GE101 := n3_; clear n0_ n1_ n2_ n3_; clear hb hbox hg; have hcz11_0 : w10.cell? ⟨gb101, 0, none⟩ = some (.int .i64 a0_0) := (blk_cell BK101.out 0).trans rfl; have hcz11_1 : w10.cell? ⟨gb101, 1, none⟩ = some (.int .i64 a0_1) := (blk_cell BK101.out 1).trans rfl; have hcz11_2 : w10.cell? ⟨gb101, 2, none⟩ = some (.int .i64 a0_2) := (blk_cell BK101.out 2).trans rfl; have hfz11_0 := blk_frozen BK101.out 0; have hfz11_1 := blk_frozen BK101.out 1; have hfz11_2 := blk_frozen BK101.out 2) | ((with_reducible refine gate_callee (f := 57) rfl ?_); refine goesL_ (some 5) rfl rfl Try.func57 (by kernel_rfl) rfl #[.int .i64 a0_0, .int .i64 1, .int .i64 1048576] rfl (by (try simp only [List.map_toArray, List.map_cons, List.map_nil]); first | done | rfl | (simp only [List.length_drop, List.length_take]; rfl)) ?_; (with_reducible refine (gooseneckref06_within.calls a0_0 1 1048576 true _ A2.out).mono ?_); rintro e w' ⟨rfl, ⟨nd, rfl⟩⟩; refine ⟨_, rfl, ?_⟩) | (go_at_call 57; (with_reducible refine (gooseneckref06_within.calls a0_1 1 1048576 true _ A4.out).mono ?_); rintro e w' ⟨rfl, ⟨nd, rfl⟩⟩))
     go_ret
     exact ⟨by first | rfl | (simp [errW_none, errW_some] <;> rfl) | (simp [*, errW_none, errW_some] <;> rfl), by repeat (first | (with_reducible first | exact HB.out | apply below_alloc | apply pw_below_drewN | apply below_drew1 | refine below_set ?_ GE101.out) | exact HB.out)⟩
    ·rw [if_neg c9] at H
     have c9b0 : decide (6 < a0_2) = false := decide_eq_false c9
     clear c9
     obtain rfl := Option.some.inj H
     go_enter Try.func25, Try.ntmps25
     go_wp2_with (first | ((with_reducible refine gate_dst (N := 1) rfl ?_); refine box_event ?hg (N := 1) ?hd (cs := #[.int .i64 a0_0, .int .i64 a0_1, .int .i64 a0_2]) (t := 43) ?hr ?_; (case hd => rfl); (case hg => rfl); (case hr => first | (go_simp; done) | (go_simp; rfl)); intro gb101 hg w12 hbox hb; have n0_ := Aside0.mk (below_step (by repeat (first | (with_reducible first | exact HB.out | apply below_alloc | apply pw_below_drewN | apply below_drew1) | exact HB.out)) hb); have n1_ := Aside0.mk (hbox); have n2_ := Aside0.mk ((by rw [hg]; exact (below_size (by repeat (first | (with_reducible first | exact HB.out | apply below_alloc | apply pw_below_drewN | apply below_drew1) | exact HB.out))) : w.heap.size ≤ gb101)); have n3_ := Aside0.mk ((by rw [hg]; exact (below_size (by repeat (first | (with_reducible first | exact HB.out | apply below_alloc | apply pw_below_drewN | apply below_drew1) | exact HB.out))) : w.heap.size ≤ gb101)); clear HB; have HB := n0_; have BK101 := n1_; have GW101 := n2_; have GE101 := n3_; clear n0_ n1_ n2_ n3_; clear hb hbox hg; have hcz13_0 : w12.cell? ⟨gb101, 0, none⟩ = some (.int .i64 a0_0) := (blk_cell BK101.out 0).trans rfl; have hcz13_1 : w12.cell? ⟨gb101, 1, none⟩ = some (.int .i64 a0_1) := (blk_cell BK101.out 1).trans rfl; have hcz13_2 : w12.cell? ⟨gb101, 2, none⟩ = some (.int .i64 a0_2) := (blk_cell BK101.out 2).trans rfl; have hfz13_0 := blk_frozen BK101.out 0; have hfz13_1 := blk_frozen BK101.out 1; have hfz13_2 := blk_frozen BK101.out 2) | ((with_reducible refine gate_callee (f := 57) rfl ?_); refine goesL_ (some 5) rfl rfl Try.func57 (by kernel_rfl) rfl #[.int .i64 a0_0, .int .i64 1, .int .i64 1048576] rfl (by (try simp only [List.map_toArray, List.map_cons, List.map_nil]); first | done | rfl | (simp only [List.length_drop, List.length_take]; rfl)) ?_; (with_reducible refine (gooseneckref06_within.calls a0_0 1 1048576 true _ A2.out).mono ?_); rintro e w' ⟨rfl, ⟨nd, rfl⟩⟩; refine ⟨_, rfl, ?_⟩) | (go_at_call 57; (with_reducible refine (gooseneckref06_within.calls a0_1 1 1048576 true _ A4.out).mono ?_); rintro e w' ⟨rfl, ⟨nd, rfl⟩⟩))
     go_ret
     exact ⟨by first | rfl | (simp [errW_none, errW_some] <;> rfl) | (simp [*, errW_none, errW_some] <;> rfl), by repeat (first | (with_reducible first | exact HB.out | apply below_alloc | apply pw_below_drewN | apply below_drew1 | refine below_set ?_ GE101.out) | exact HB.out)⟩
  ·replace c5 := Bool.eq_false_iff.mpr c5
   subst c5
   have H1 : (some 2) = some r := by rw [if_neg (show ¬ (false = true) by decide)] at H; exact H
   clear H
   have H := H1
   clear H1
   obtain rfl := Option.some.inj H
   go_enter Try.func25, Try.ntmps25
   go_wp2_with (first | ((with_reducible refine gate_dst (N := 1) rfl ?_); refine box_event ?hg (N := 1) ?hd (cs := #[.int .i64 a0_0, .int .i64 a0_1, .int .i64 a0_2]) (t := 43) ?hr ?_; (case hd => rfl); (case hg => rfl); (case hr => first | (go_simp; done) | (go_simp; rfl)); intro gb101 hg w14 hbox hb; have n0_ := Aside0.mk (below_step (by repeat (first | (with_reducible first | exact HB.out | apply below_alloc | apply pw_below_drewN | apply below_drew1) | exact HB.out)) hb); have n1_ := Aside0.mk (hbox); have n2_ := Aside0.mk ((by rw [hg]; exact (below_size (by repeat (first | (with_reducible first | exact HB.out | apply below_alloc | apply pw_below_drewN | apply below_drew1) | exact HB.out))) : w.heap.size ≤ gb101)); have n3_ := Aside0.mk ((by rw [hg]; exact (below_size (by repeat (first | (with_reducible first | exact HB.out | apply below_alloc | apply pw_below_drewN | apply below_drew1) | exact HB.out))) : w.heap.size ≤ gb101)); clear HB; have HB := n0_; have BK101 := n1_; have GW101 := n2_; have GE101 := n3_; clear n0_ n1_ n2_ n3_; clear hb hbox hg; have hcz15_0 : w14.cell? ⟨gb101, 0, none⟩ = some (.int .i64 a0_0) := (blk_cell BK101.out 0).trans rfl; have hcz15_1 : w14.cell? ⟨gb101, 1, none⟩ = some (.int .i64 a0_1) := (blk_cell BK101.out 1).trans rfl; have hcz15_2 : w14.cell? ⟨gb101, 2, none⟩ = some (.int .i64 a0_2) := (blk_cell BK101.out 2).trans rfl; have hfz15_0 := blk_frozen BK101.out 0; have hfz15_1 := blk_frozen BK101.out 1; have hfz15_2 := blk_frozen BK101.out 2) | ((with_reducible refine gate_callee (f := 57) rfl ?_); refine goesL_ (some 5) rfl rfl Try.func57 (by kernel_rfl) rfl #[.int .i64 a0_0, .int .i64 1, .int .i64 1048576] rfl (by (try simp only [List.map_toArray, List.map_cons, List.map_nil]); first | done | rfl | (simp only [List.length_drop, List.length_take]; rfl)) ?_; (with_reducible refine (gooseneckref06_within.calls a0_0 1 1048576 true _ A2.out).mono ?_); rintro e w' ⟨rfl, ⟨nd, rfl⟩⟩; refine ⟨_, rfl, ?_⟩) | (go_at_call 57; (with_reducible refine (gooseneckref06_within.calls a0_1 1 1048576 false _ A4.out).mono ?_); rintro e w' ⟨rfl, ⟨nd, rfl⟩⟩))
   go_ret
   exact ⟨by first | rfl | (simp [errW_none, errW_some] <;> rfl) | (simp [*, errW_none, errW_some] <;> rfl), by repeat (first | (with_reducible first | exact HB.out | apply below_alloc | apply pw_below_drewN | apply below_drew1 | refine below_set ?_ GE101.out) | exact HB.out)⟩
 ·replace c3 := Bool.eq_false_iff.mpr c3
  subst c3
  have H1 : (some 2) = some r := by rw [if_neg (show ¬ (false = true) by decide)] at H; exact H
  clear H
  have H := H1
  clear H1
  obtain rfl := Option.some.inj H
  go_enter Try.func25, Try.ntmps25
  go_wp2_with (first | ((with_reducible refine gate_dst (N := 1) rfl ?_); refine box_event ?hg (N := 1) ?hd (cs := #[.int .i64 a0_0, .int .i64 a0_1, .int .i64 a0_2]) (t := 43) ?hr ?_; (case hd => rfl); (case hg => rfl); (case hr => first | (go_simp; done) | (go_simp; rfl)); intro gb101 hg w16 hbox hb; have n0_ := Aside0.mk (below_step (by repeat (first | (with_reducible first | exact HB.out | apply below_alloc | apply pw_below_drewN | apply below_drew1) | exact HB.out)) hb); have n1_ := Aside0.mk (hbox); have n2_ := Aside0.mk ((by rw [hg]; exact (below_size (by repeat (first | (with_reducible first | exact HB.out | apply below_alloc | apply pw_below_drewN | apply below_drew1) | exact HB.out))) : w.heap.size ≤ gb101)); have n3_ := Aside0.mk ((by rw [hg]; exact (below_size (by repeat (first | (with_reducible first | exact HB.out | apply below_alloc | apply pw_below_drewN | apply below_drew1) | exact HB.out))) : w.heap.size ≤ gb101)); clear HB; have HB := n0_; have BK101 := n1_; have GW101 := n2_; have GE101 := n3_; clear n0_ n1_ n2_ n3_; clear hb hbox hg; have hcz17_0 : w16.cell? ⟨gb101, 0, none⟩ = some (.int .i64 a0_0) := (blk_cell BK101.out 0).trans rfl; have hcz17_1 : w16.cell? ⟨gb101, 1, none⟩ = some (.int .i64 a0_1) := (blk_cell BK101.out 1).trans rfl; have hcz17_2 : w16.cell? ⟨gb101, 2, none⟩ = some (.int .i64 a0_2) := (blk_cell BK101.out 2).trans rfl; have hfz17_0 := blk_frozen BK101.out 0; have hfz17_1 := blk_frozen BK101.out 1; have hfz17_2 := blk_frozen BK101.out 2) | ((with_reducible refine gate_callee (f := 57) rfl ?_); refine goesL_ (some 5) rfl rfl Try.func57 (by kernel_rfl) rfl #[.int .i64 a0_0, .int .i64 1, .int .i64 1048576] rfl (by (try simp only [List.map_toArray, List.map_cons, List.map_nil]); first | done | rfl | (simp only [List.length_drop, List.length_take]; rfl)) ?_; (with_reducible refine (gooseneckref06_within.calls a0_0 1 1048576 false _ A2.out).mono ?_); rintro e w' ⟨rfl, ⟨nd, rfl⟩⟩; refine ⟨_, rfl, ?_⟩))
  go_ret
  exact ⟨by first | rfl | (simp [errW_none, errW_some] <;> rfl) | (simp [*, errW_none, errW_some] <;> rfl), by repeat (first | (with_reducible first | exact HB.out | apply below_alloc | apply pw_below_drewN | apply below_drew1 | refine below_set ?_ GE101.out) | exact HB.out)⟩
end Go.Proofs.Ytiklpefckadgdaa.P
namespace Go.Proofs.Ytiklpefckadgdaa.P
open Go.RowKit Go.Proofs.YtiklpefckadgdaaW.PrintWords Go.Proofs.YtiklpefckadgdaaW.PrintLast Go.Proofs.YtiklpefckadgdaaW.PrintMore
theorem within_r (x lo hi : Int) : gooseneckref06_within.f x lo hi = some (inR x lo hi) := within_c x lo hi
theorem upR_eq {n d : Int} (hn : 0 ≤ n) (hn1 : n ≤ 4611686018427387904) (hd : 1 ≤ d) (hd1 : d ≤ 2305843009213693952) : gooseneckref06_up.f n d = some (upI n d) := by
 unfold gooseneckref06_up.f upI
 rw [if_neg (by omega), w64 (x := n + d) (by omega) (by omega), w64 (x := n + d - 1) (by omega) (by omega), Int.tdiv_eq_ediv_of_nonneg (by omega)]
 have h0 : 0 ≤ (n + d - 1) / d := Int.ediv_nonneg (by omega) (by omega)
 have h1 : (n + d - 1) / d ≤ n + d - 1 := Int.ediv_le_self _ (by omega)
 rw [w64 (by omega) (by omega)]
theorem floorR_eq {n d : Int} (hd : 1 ≤ d) (h0 : -4611686018427387904 ≤ n) (h1 : n ≤ 4611686018427387904) : gooseneckref02_Floor.f n d = some (n / d) := by
 unfold gooseneckref02_Floor.f
 rw [if_neg (by omega)]
 have h2 := Int.mul_ediv_add_emod n d
 have h3 := Int.emod_nonneg n (show d ≠ 0 by omega)
 have h4 := Int.emod_lt_of_pos n (show 0 < d by omega)
 have b0 : -4611686018427387904 ≤ n / d := by
  have : -4611686018427387904 * d ≤ n := by
   have := Int.mul_le_mul_of_nonneg_left hd (show (0 : Int) ≤ 4611686018427387904 by decide)
   rw [Int.neg_mul]; omega
  exact Int.le_ediv_of_mul_le (by omega) this
 have b1 : n / d ≤ 4611686018427387904 := by
  rcases Int.le_total 0 n with g | g
  ·have := Int.ediv_le_self d g; omega
  ·have : n / d ≤ 0 := by
    have := Int.ediv_le_ediv (show 0 < d by omega) g
    simpa using this
   omega
 rw [Int.tdiv_eq_ediv, Int.tmod_eq_emod]
 rcases Int.lt_or_le n 0 with g | g
 ·have hz : (d ∣ n) ↔ n % d = 0 := Int.dvd_iff_emod_eq_zero
  by_cases hdv : n % d = 0
  ·have : 0 ≤ n ∨ d ∣ n := .inr (hz.2 hdv)
   rw [if_pos this, if_pos this, if_neg (by omega), Int.add_zero, w64 (by omega) (by omega)]
  ·have : ¬ (0 ≤ n ∨ d ∣ n) := by rintro (k | k); omega; exact hdv (hz.1 k)
   rw [if_neg this, if_neg this, Int.sign_eq_one_of_pos (by omega)]
   have hs : ((d.natAbs : Nat) : Int) = d := by omega
   rw [if_pos (by omega), w64 (x := n / d + 1) (by omega) (by omega), w64 (by omega) (by omega)]
   congr 1; omega
 ·have : 0 ≤ n ∨ d ∣ n := .inl g
  rw [if_pos this, if_pos this, if_neg (by omega), Int.add_zero, w64 (by omega) (by omega)]
theorem two_div (a : Int) (m : Nat) : a / 2 ^ m = 2 * (a / 2 ^ (m + 1)) + (a / 2 ^ m) % 2 := by
 have e : a / 2 ^ (m + 1) = a / 2 ^ m / 2 := by
  rw [Int.pow_succ, Int.ediv_ediv_of_nonneg (Int.le_of_lt (Int.pow_pos (by decide)))]
 rw [e]; omega
theorem down_in {a d w rest v : Int} (hd : 1 ≤ d ∧ d ≤ 1125899906842624) (m : Nat) (hm : m ≤ 30) (n : Nat) : ∀ (q r : Int), 0 ≤ r → r < (n + 1) * d → (n : Int) ≤ 8 → 0 ≤ q → q + n ≤ 17179869184 →
  Ev (fun k => gooseneckref04_Down.l0 k a d w rest (q + r / d) (r % d) ((m : Int) - 1)) v → Ev (fun k => gooseneckref04_Down.l1 k a d w rest q r (m : Int)) v := by
 induction n with
 | zero =>
  intro q r h0 h1 hn q0 q1 h
  have h1' : r < d := by simpa using h1
  rw [Int.ediv_eq_zero_of_lt h0 h1', Int.emod_eq_of_lt h0 h1', Int.add_zero] at h
  refine Ev.step (fun k => ?_) h
  rw [gooseneckref04_Down.l1, if_neg (by omega), w64 (by omega) (by omega)]
 | succ n ih =>
  intro q r h0 h1 hn q0 q1 h
  have hnd : ((n + 1 : Nat) : Int) = (n : Int) + 1 := rfl
  rw [hnd] at h1
  have hb : ((n : Int) + 1 + 1) * d = ((n : Int) + 1) * d + d := by rw [Int.add_mul ((n : Int) + 1) 1 d, Int.one_mul]
  have hmul : ((n : Int) + 1) * d ≤ 9 * d := Int.mul_le_mul_of_nonneg_right (by omega) (by omega)
  by_cases c : r < d
  ·rw [Int.ediv_eq_zero_of_lt h0 c, Int.emod_eq_of_lt h0 c, Int.add_zero] at h
   refine Ev.step (fun k => ?_) h
   rw [gooseneckref04_Down.l1, if_neg (by omega), w64 (by omega) (by omega)]
  ·have e1 : r / d = (r - d) / d + 1 := by
    have h2 : r / d = ((r - d) + 1 * d) / d := by congr 1; omega
    rw [h2, Int.add_mul_ediv_right _ _ (by omega)]
   have e2 : r % d = (r - d) % d := by
    have h2 : r % d = ((r - d) + 1 * d) % d := by congr 1; omega
    rw [h2, Int.add_mul_emod_self_right]
   refine Ev.step (fun k => ?_) (ih (q + 1) (r - d) (by omega) (by omega) (by omega) (by omega) (by omega) (by rw [show q + 1 + (r - d) / d = q + r / d by omega, ← e2]; exact h))
   rw [gooseneckref04_Down.l1, if_pos (by omega), w64 (x := q + 1) (by omega) (by omega), w64 (x := r - d) (by omega) (by omega)]
theorem down_out {a d w rest : Int} (ha : 0 ≤ a ∧ a < 2147483648) (hd : 1 ≤ d ∧ d ≤ 1125899906842624) (hr : 0 ≤ rest ∧ rest < d) (hw : -2305843009213693952 ≤ w * a ∧ w * a ≤ 2305843009213693952) (n : Nat) : ∀ (q r : Int), n ≤ 31 → 0 ≤ r → r < d → 0 ≤ q → a / 2 ^ n * rest = q * d + r →
  Ev (fun k => gooseneckref04_Down.l0 k a d w rest q r ((n : Int) - 1)) (w * a + a * rest / d) := by
 have qle : ∀ (n : Nat) (q r : Int), 0 ≤ r → a / 2 ^ n * rest = q * d + r → q ≤ a := by
  intro n q r h0 h
  have hp : (0 : Int) < 2 ^ n := Int.pow_pos (by decide)
  have h1 : a / 2 ^ n ≤ a := Int.ediv_le_self _ ha.1
  have h2 : 0 ≤ a / 2 ^ n := Int.ediv_nonneg ha.1 (Int.le_of_lt hp)
  have h3 := Int.mul_le_mul h1 (Int.le_of_lt hr.2) hr.1 ha.1
  have h4 : q * d ≤ a * d := by omega
  exact Int.le_of_mul_le_mul_right h4 (by omega)
 induction n with
 | zero =>
  intro q r hn h0 h1 q0 h
  have e0 : a / 2 ^ 0 = a := by simp
  rw [e0] at h
  have q1 := qle 0 q r h0 (by rw [e0]; exact h)
  have e : a * rest / d = q := (Int.ediv_eq_iff_of_pos (by omega)).2 (by omega)
  rw [e]
  refine Ev.step (f := fun _ => some (w * a + q)) (fun k => ?_) (Ev.now _)
  rw [gooseneckref04_Down.l0, if_neg (by omega), w64 (x := w * a) (by omega) (by omega), w64 (by omega) (by omega)]
 | succ m ih =>
  intro q r hn h0 h1 q0 h
  have q1 := qle (m + 1) q r h0 h
  have hi : ((m + 1 : Nat) : Int) - 1 = (m : Int) := by omega
  rw [hi]
  have hu : IntKind.u64.wrap (m : Int) = (m : Int) := by simp [IntKind.wrap, IntKind.bits, IntKind.signed]; omega
  have hs : shr .i64 a (IntKind.u64.wrap (m : Int)) = a / 2 ^ m := by
   rw [hu]; unfold shr
   have : min (m : Int).toNat IntKind.i64.bits = m := by show min _ 64 = m; omega
   rw [this]
  have hp : (0 : Int) < 2 ^ m := Int.pow_pos (by decide)
  have hnn : 0 ≤ a / 2 ^ m := Int.ediv_nonneg ha.1 (Int.le_of_lt hp)
  have hbit := two_div a m
  have hnn2 : 0 ≤ a / 2 ^ (m + 1) := Int.ediv_nonneg ha.1 (Int.le_of_lt (Int.pow_pos (by decide)))
  generalize a / 2 ^ (m + 1) = A at *
  have step : ∀ b : Int, a / 2 ^ m % 2 = b → 0 ≤ b → b ≤ 1 → Ev (fun k => gooseneckref04_Down.l1 k a d w rest (2 * q) (2 * r + b * rest) (m : Int)) (w * a + a * rest / d) := by
   intro b hb b0 b1
   have hbr0 : 0 ≤ b * rest := Int.mul_nonneg b0 hr.1
   have hbr1 : b * rest ≤ rest := by have := Int.mul_le_mul_of_nonneg_right b1 hr.1; omega
   refine down_in hd m (by omega) 2 (2 * q) (2 * r + b * rest) (by omega) (by omega) (by decide) (by omega) (by omega) ?_
   have hd0 := Int.mul_ediv_add_emod (2 * r + b * rest) d
   have hd1 := Int.emod_nonneg (2 * r + b * rest) (show d ≠ 0 by omega)
   have hd2 := Int.emod_lt_of_pos (2 * r + b * rest) (show 0 < d by omega)
   have hd3 : 0 ≤ (2 * r + b * rest) / d := Int.ediv_nonneg (by omega) (by omega)
   refine ih _ _ (by omega) hd1 hd2 (by omega) ?_
   rw [hbit, hb]
   have e1 : (2 * A + b) * rest = 2 * (A * rest) + b * rest := by grind
   have e2 : (2 * q + (2 * r + b * rest) / d) * d = 2 * (q * d) + d * ((2 * r + b * rest) / d) := by grind
   rw [e1, e2]
   omega
  have hm2 : Int.tmod (a / 2 ^ m) 2 = a / 2 ^ m % 2 := Int.tmod_eq_emod_of_nonneg hnn
  by_cases c : a / 2 ^ m % 2 = 1
  ·have := step 1 c (by decide) (by decide)
   rw [Int.one_mul] at this
   refine Ev.step (f := fun k => gooseneckref04_Down.j1 k a d w rest (2 * q) (2 * r + rest) (m : Int)) (fun k => ?_) (Ev.step (fun k => by rw [gooseneckref04_Down.j1]) this)
   rw [gooseneckref04_Down.l0, if_pos (by omega), if_pos (by omega), hs, hm2, if_pos c, w64 (x := 2 * q) (by omega) (by omega), w64 (x := 2 * r) (by omega) (by omega), w64 (by omega) (by omega)]
  ·have := step 0 (by omega) (by decide) (by decide)
   rw [Int.zero_mul, Int.add_zero] at this
   refine Ev.step (f := fun k => gooseneckref04_Down.j1 k a d w rest (2 * q) (2 * r) (m : Int)) (fun k => ?_) (Ev.step (fun k => by rw [gooseneckref04_Down.j1]) this)
   rw [gooseneckref04_Down.l0, if_pos (by omega), if_pos (by omega), hs, hm2, if_neg c, w64 (x := 2 * q) (by omega) (by omega), w64 (x := 2 * r) (by omega) (by omega)]
theorem down_ev {a b d : Int} (ha : 0 ≤ a ∧ a < 2147483648) (hd : 1 ≤ d ∧ d ≤ 1125899906842624) (hb : -4611686018427387904 ≤ b ∧ b ≤ 4611686018427387904) (hw : -2305843009213693952 ≤ b / d * a ∧ b / d * a ≤ 2305843009213693952) :
  Ev (fun k => gooseneckref04_Down.f k a b d) (a * b / d) := by
 have h2 := Int.mul_ediv_add_emod b d
 have h3 := Int.emod_nonneg b (show d ≠ 0 by omega)
 have h4 := Int.emod_lt_of_pos b (show 0 < d by omega)
 have hz : a / 2 ^ 31 = 0 := Int.ediv_eq_zero_of_lt ha.1 (by omega)
 have h := down_out (w := b / d) ha hd ⟨h3, h4⟩ hw 31 0 0 (by omega) (by omega) (by omega) (by omega) (by rw [hz, Int.zero_mul, Int.zero_mul]; rfl)
 have e : b / d * a + a * (b % d) / d = a * b / d := by
  have e1 : a * b = a * (b % d) + b / d * a * d := by
   have : a * b = a * (d * (b / d) + b % d) := by rw [h2]
   rw [this]; grind
  rw [e1, Int.add_mul_ediv_right _ _ (by omega), Int.add_comm]
 rw [e] at h
 have hbd : b / d * d = d * (b / d) := Int.mul_comm ..
 refine Ev.congr (fun k => ?_) h
 unfold gooseneckref04_Down.f
 rw [floorR_eq hd.1 hb.1 hb.2, Option.bind_some, w64 (x := b / d * d) (by omega) (by omega), w64 (by omega) (by omega), show b - b / d * d = b % d by omega]
 rfl
theorem neg_div_neg {n d : Int} (hd : 1 ≤ d) : -((-n) / d) = upI n d := by
 unfold upI
 have h2 := Int.mul_ediv_add_emod (n + d - 1) d
 have h3 := Int.emod_nonneg (n + d - 1) (show d ≠ 0 by omega)
 have h4 := Int.emod_lt_of_pos (n + d - 1) (show 0 < d by omega)
 have : (-n) / d = -((n + d - 1) / d) := (Int.ediv_eq_iff_of_pos (by omega)).2 (by rw [Int.neg_mul, Int.mul_comm _ d]; omega)
 omega
theorem upR4_ev {a b d : Int} (ha : 0 ≤ a ∧ a < 2147483648) (hd : 1 ≤ d ∧ d ≤ 1125899906842624) (hb : 0 ≤ b ∧ b ≤ 4611686018427387904) (hw : -2305843009213693952 ≤ (-b) / d * a) (hu : a * b ≤ 4611686018427387904 * d) :
  Ev (fun k => gooseneckref04_Up.f k a b d) (upI (a * b) d) := by
 have hab := Int.mul_nonneg ha.1 hb.1
 have hn : (-b) / d ≤ 0 := by
  have := Int.ediv_le_ediv (show 0 < d by omega) (show -b ≤ 0 by omega)
  simpa using this
 have hw2 : (-b) / d * a ≤ 0 := by
  have := Int.mul_nonneg (show 0 ≤ -((-b) / d) by omega) ha.1
  rw [Int.neg_mul] at this; omega
 have h := down_ev (b := -b) ha hd (by omega) ⟨hw, by omega⟩
 have e : a * -b = -(a * b) := Int.mul_neg ..
 rw [e] at h
 have e2 := neg_div_neg (n := a * b) hd.1
 have hq : -4611686018427387904 ≤ (-(a * b)) / d := Int.le_ediv_of_mul_le (by omega) (by rw [Int.neg_mul]; omega)
 have hq2 : (-(a * b)) / d ≤ 0 := by
  have := Int.ediv_le_ediv (show 0 < d by omega) (show -(a * b) ≤ 0 by omega)
  simpa using this
 unfold gooseneckref04_Up.f
 rw [w64 (x := -b) (by omega) (by omega)]
 refine Ev.bind h ?_
 rw [w64 (by omega) (by omega), e2]
 exact Ev.now _
end Go.Proofs.Ytiklpefckadgdaa.P
namespace Go.Proofs.Ytiklpefckadgdaa.P
open Go.RowKit Go.Proofs.YtiklpefckadgdaaW.PrintWords Go.Proofs.YtiklpefckadgdaaW.PrintLast Go.Proofs.YtiklpefckadgdaaW.PrintMore
set_option linter.unusedVariables false
set_option linter.unusedSimpArgs false
def tailB (a b c : Int) : Int := if ¬ (inR a 0 1000 = true ∧ 1 ≤ b ∧ b ≤ 4 ∧ inR c 0 4096 = true) then 2 else 0
theorem tail_ev (a b c : Int) : (if inR a 0 1000 = true then (if b < 1 then some 2 else if b > 4 then some 2 else if inR c 0 4096 = true then some 0 else some 2) else some 2) = some (tailB a b c) := by
 unfold tailB
 by_cases g0 : inR a 0 1000 = true ∧ 1 ≤ b ∧ b ≤ 4 ∧ inR c 0 4096 = true
 ·rw [if_pos g0.1, if_neg (by omega), if_neg (by omega), if_pos g0.2.2.2, if_neg (fun h => h g0)]
 ·rw [if_pos g0]
  by_cases g1 : inR a 0 1000 = true
  ·rw [if_pos g1]
   by_cases g2 : b < 1
   ·rw [if_pos g2]
   ·rw [if_neg g2]
    by_cases g3 : b > 4
    ·rw [if_pos g3]
    ·rw [if_neg g3]
     by_cases g4 : inR c 0 4096 = true
     ·exact absurd ⟨g1, by omega, by omega, g4⟩ g0
     ·rw [if_neg g4]
  ·rw [if_neg g1]
theorem checkR_loop (l m s : List Int) (a b c : Int) (hl : l.length ≤ 6) (hm : m.length = l.length) (hs : s.length = l.length) (d : Nat) : ∀ (i : Nat), l.length - i = d → i ≤ l.length →
  Ev (fun k => gooseneckref06_Check.l0 k (i : Int) l m s a b c) (if spansOk (l.drop i) (m.drop i) (s.drop i) = true then tailB a b c else 2) := by
 induction d with
 | zero =>
  intro i hd hi
  have he : i = l.length := by omega
  subst he
  rw [List.drop_length]
  refine Ev.step (f := fun _ => some (tailB a b c)) (fun k => ?_) (by simpa [spansOk] using Ev.now (tailB a b c))
  rw [← tail_ev]
  simp only [gooseneckref06_Check.l0]
  rw [if_neg (by omega)]
  simp only [within_r, Option.bind_some]
 | succ d ih =>
  intro i hd hi
  have hlt : i < l.length := by omega
  have hltm : i < m.length := by omega
  have hlts : i < s.length := by omega
  rw [List.drop_eq_getElem_cons hlt, List.drop_eq_getElem_cons hltm, List.drop_eq_getElem_cons hlts, spansOk]
  have hrec := ih (i + 1) (by omega) (by omega)
  have hw : wrap64 ((i : Int) + 1) = ((i + 1 : Nat) : Int) := by rw [w64 (by omega) (by omega)]; rfl
  have hstep : ∀ k, gooseneckref06_Check.l0 (k + 1) (i : Int) l m s a b c = if inR l[i] 100 131072 = true then (if inR m[i] 1 1073741824 = true then (if inR s[i] 1 1073741824 = true then gooseneckref06_Check.l0 k ((i + 1 : Nat) : Int) l m s a b c else some 2) else some 2) else some 2 := by
   intro k
   simp only [gooseneckref06_Check.l0]
   rw [if_pos (by omega), if_pos (by omega), rd_get l i hlt, within_r, hw, if_pos (show (i : Int) < (m.length : Int) by omega), if_pos (show (i : Int) < (s.length : Int) by omega), rd_get m i hltm, rd_get s i hlts, within_r, within_r]
   rfl
  refine Ev.step hstep ?_
  cases h1 : inR l[i] 100 131072
  ·simpa using Ev.now (2 : Int)
  ·cases h2 : inR m[i] 1 1073741824
   ·simpa using Ev.now (2 : Int)
   ·cases h3 : inR s[i] 1 1073741824
    ·simpa using Ev.now (2 : Int)
    ·simpa using hrec
theorem checkR_ev (l m s : List Int) (a b c : Int) : Ev (fun k => gooseneckref06_Check.f k l m s a b c) (errB l m s a b c) := by
 unfold gooseneckref06_Check.f errB
 by_cases h1 : (l.length : Int) < 1
 ·rw [if_pos (.inl h1)]
  simp only [if_pos h1]
  refine Ev.step (f := fun _ => some 6) (fun k => ?_) (Ev.now _)
  rw [gooseneckref06_Check.j0, if_pos rfl]
 ·simp only [if_neg h1]
  by_cases h2 : (l.length : Int) > 6
  ·rw [if_pos (.inr h2)]
   refine Ev.step (f := fun _ => some 6) (fun k => ?_) (Ev.now _)
   rw [gooseneckref06_Check.j0, if_pos (by simpa using h2)]
  ·rw [if_neg (by omega)]
   have hj : ∀ k, gooseneckref06_Check.j0 (k + 1) (decide ((l.length : Int) > 6)) l m s a b c = if (m.length : Int) = l.length then gooseneckref06_Check.j1 k ((s.length : Int) != l.length) l m s a b c else gooseneckref06_Check.j1 k true l m s a b c := by
    intro k
    rw [gooseneckref06_Check.j0, if_neg (by simpa using h2)]
   refine Ev.step hj ?_
   by_cases h3 : (m.length : Int) = l.length
   ·simp only [if_pos h3]
    by_cases h4 : (s.length : Int) = l.length
    ·rw [if_neg (by simp [h3, h4])]
     have hj1 : ∀ k, gooseneckref06_Check.j1 (k + 1) ((s.length : Int) != l.length) l m s a b c = gooseneckref06_Check.l0 k ((0 : Nat) : Int) l m s a b c := by
      intro k
      rw [gooseneckref06_Check.j1, if_neg (by simp [h4])]
      rfl
     refine Ev.step hj1 ?_
     have := checkR_loop l m s a b c (by omega) (by omega) (by omega) l.length 0 (by omega) (by omega)
     simp only [List.drop_zero] at this
     have e : (if spansOk l m s = true then tailB a b c else 2) = (if ¬ (inR a 0 1000 = true ∧ 1 ≤ b ∧ b ≤ 4 ∧ inR c 0 4096 = true) then 2 else if spansOk l m s = true then 0 else 2) := by
      unfold tailB
      split <;> split <;> rfl
     rw [← e]
     exact this
    ·rw [if_pos (by simp [h4])]
     refine Ev.step (f := fun _ => some 17) (fun k => ?_) (Ev.now _)
     rw [gooseneckref06_Check.j1, if_pos (by simp [h4])]
   ·simp only [if_neg h3]
    rw [if_pos (by simp [h3])]
    refine Ev.step (f := fun _ => some 17) (fun k => ?_) (Ev.now _)
    rw [gooseneckref06_Check.j1, if_pos rfl]
def pointsL (L : Int) : List Int := (List.range 15).map fun n => L * ((n + 1 : Nat) : Int) / 16
theorem pointsL_len (L : Int) : (pointsL L).length = 15 := by simp [pointsL]
theorem pointsL_get (L : Int) {n : Nat} (hn : n < 15) : rd (pointsL L) (n : Int) = L * ((n + 1 : Nat) : Int) / 16 := by
 rw [rd_get _ _ (by rw [pointsL_len]; exact hn)]
 simp [pointsL]
theorem points_loop {L : Int} (hL : 0 ≤ L ∧ L ≤ 131072) (d : Nat) : ∀ n, 15 - n = d → n ≤ 15 → gooseneckref06_Points.l0 (d + 1) L ((pointsL L).take n) ((n : Int) + 1) = some (pointsL L) := by
 induction d with
 | zero =>
  intro n hd hn
  obtain rfl : n = 15 := by omega
  rw [gooseneckref06_Points.l0, if_neg (by decide), List.take_of_length_le (by rw [pointsL_len]; decide)]
 | succ d ih =>
  intro n hd hn
  have hp : 0 ≤ L * ((n : Int) + 1) := Int.mul_nonneg hL.1 (by omega)
  have hp2 : L * ((n : Int) + 1) ≤ 131072 * 15 := Int.mul_le_mul hL.2 (by omega) (by omega) (by decide)
  have hd1 : L * ((n : Int) + 1) / 16 ≤ L * ((n : Int) + 1) := Int.ediv_le_self _ hp
  have hd0 : 0 ≤ L * ((n : Int) + 1) / 16 := Int.ediv_nonneg hp (by decide)
  rw [gooseneckref06_Points.l0, if_pos (by omega), if_pos (by rw [List.length_take]; omega), w64 (x := L * ((n : Int) + 1)) (by omega) (by omega), Int.tdiv_eq_ediv_of_nonneg hp, w64 (by omega) (by omega), w64 (by omega) (by omega)]
  have e : (pointsL L).take n ++ [L * ((n : Int) + 1) / 16] = (pointsL L).take (n + 1) := by
   rw [List.take_succ_eq_append_getElem (by rw [pointsL_len]; omega)]
   simp [pointsL]
  rw [e]
  have := ih (n + 1) (by omega) (by omega)
  rw [← this]
  rfl
theorem points_ev {L : Int} (hL : 0 ≤ L ∧ L ≤ 131072) : Ev (fun k => gooseneckref06_Points.f k L) (pointsL L) := by
 refine Ev.of (gooseneckref06_Points.mono L) (k := 16) ?_
 unfold gooseneckref06_Points.f
 have := points_loop hL 15 0 rfl (by decide)
 simpa using this
theorem up4_share {dyn v L : Int} (hd : 0 ≤ dyn ∧ dyn ≤ 1000) (hv : 0 ≤ v ∧ v ≤ 1152921504606846976) (hL : 100 ≤ L ∧ L ≤ 131072) :
  Ev (fun k => gooseneckref04_Up.f k (1000 + dyn) v (1000 * L)) (shareZ (1000 + dyn) v (1000 * L)) := by
 obtain ⟨_, s0, s1⟩ := share_fit hd hv hL
 have m0 : 0 ≤ (1000 + dyn) * v := Int.mul_nonneg (by omega) hv.1
 have m1 : (1000 + dyn) * v ≤ 2000 * 1152921504606846976 := Int.mul_le_mul (by omega) hv.2 hv.1 (by decide)
 rw [shareZ_up m0 (by omega)]
 refine upR4_ev ⟨by omega, by omega⟩ ⟨by omega, by omega⟩ ⟨hv.1, by omega⟩ ?_ ?_
 ·have h1 : -11529215046069 ≤ (-v) / (1000 * L) := by
   rw [Int.le_ediv_iff_mul_le (by omega)]
   have := Int.mul_le_mul_of_nonneg_left (show 100000 ≤ 1000 * L by omega) (show (0 : Int) ≤ 11529215046069 by decide)
   omega
  have h2 : (-v) / (1000 * L) ≤ 0 := by
   have := Int.ediv_le_ediv (show 0 < 1000 * L by omega) (show -v ≤ 0 by omega)
   simpa using this
  generalize (-v) / (1000 * L) = q at *
  have h3 : -(11529215046069 * 2000) ≤ q * (1000 + dyn) := by
   have := Int.mul_le_mul (show -q ≤ 11529215046069 by omega) (show 1000 + dyn ≤ 2000 by omega) (by omega) (by decide)
   rw [Int.neg_mul] at this
   omega
  omega
 ·have := Int.mul_le_mul_of_nonneg_left (show 100000 ≤ 1000 * L by omega) (show (0 : Int) ≤ 4611686018427387904 by decide)
  omega
theorem rest_up {l m s : List Int} {a b c : Int} (h : errB l m s a b c = 0) : wrap64 (wrap64 (b - 1) * c) = (b - 1) * c ∧ 0 ≤ (b - 1) * c ∧ (b - 1) * c ≤ 12288 := by
 have := restV_bd h true
 unfold restV at this
 rw [if_pos rfl] at this
 obtain ⟨_, _, _, _, _, h1, h2, _⟩ := errB_zero h
 rw [w64 (x := b - 1) (by omega) (by omega), w64 (by omega) (by omega)]
 exact ⟨rfl, this⟩
theorem bornM_ev {l m s : List Int} {a b c : Int} {k : Nat} {x v : Int} (e1 : errB l m s a b c = 0) (hk : k < l.length) (hx : 0 ≤ x ∧ x ≤ rd l (k : Int)) (hv : 0 ≤ v ∧ v ≤ 1152921504606846976) (tr : Bool) (e : S29) (he0 : e.f0 = v) (he2 : e.f2 = x)
  (hL : 100 ≤ rd l (k : Int) ∧ rd l (k : Int) ≤ 131072) (hM : 1 ≤ rd m (k : Int) ∧ rd m (k : Int) ≤ 1073741824) :
  Ev (fun n => gooseneckref06_BornMoment.f n l m s a b c (k : Int) x v tr) (!failM a (restV b c tr) (rd l (k : Int)) (rd m (k : Int)) e) := by
 obtain ⟨g1, g2, g3, g4, ha, hb, hc, _⟩ := errB_zero e1
 unfold gooseneckref06_BornMoment.f
 simp only [if_pos (show (0 : Int) ≤ (k : Int) by omega), if_pos (show (k : Int) < (l.length : Int) by omega), if_pos (show (k : Int) < (m.length : Int) by omega)]
 generalize rd l (k : Int) = L at *
 generalize rd m (k : Int) = M at *
 rw [w64 (x := 1000 + a) (by omega) (by omega), w64 (x := 1000 * L) (by omega) (by omega), w64 (x := 1000 * M) (by omega) (by omega), w64 (x := L - x) (by omega) (by omega), (rest_up e1).1]
 refine Ev.bind (up4_share ha hv hL) ?_
 obtain ⟨_, s0, s1⟩ := share_fit ha hv hL
 unfold failM
 rw [he0, he2]
 generalize shareZ (1000 + a) v (1000 * L) = S at *
 cases tr with
 | false =>
  simp only [Bool.false_eq_true, if_false]
  have : upI (restV b c false * x * (L - x)) 2000 = 0 := by simp [restV, upI]
  rw [this]
  have e : (!decide (S + 0 > 1000 * M)) = decide (S ≤ 1000 * M) := by
   by_cases q : S ≤ 1000 * M
   ·rw [decide_eq_true q, decide_eq_false (by omega)]; rfl
   ·rw [decide_eq_false q, decide_eq_true (by omega)]; rfl
  rw [e]
  exact Ev.now _
 | true =>
  have hr : restV b c true = (b - 1) * c := by simp [restV]
  rw [hr]
  obtain ⟨_, r0, r1⟩ := rest_up e1
  generalize (b - 1) * c = R at *
  have m0 : 0 ≤ R * x := Int.mul_nonneg r0 hx.1
  have m1 : R * x ≤ 12288 * 131072 := Int.mul_le_mul r1 (by omega) hx.1 (by decide)
  have m2 : 0 ≤ R * x * (L - x) := Int.mul_nonneg m0 (by omega)
  have m3 : R * x * (L - x) ≤ 12288 * 131072 * 131072 := Int.mul_le_mul m1 (by omega) (by omega) (by decide)
  rw [w64 (x := R * x) (by omega) (by omega), w64 (x := R * x * (L - x)) (by omega) (by omega)]
  simp only [if_true, upR_eq m2 (show R * x * (L - x) ≤ 4611686018427387904 by omega) (show (1 : Int) ≤ 2000 by decide) (by decide), Option.bind_some]
  have u0 := upI_nonneg (n := R * x * (L - x)) (d := 2000) m2 (by decide)
  have u1 := upI_le (n := R * x * (L - x)) (d := 2000) m2 (by decide)
  generalize upI (R * x * (L - x)) 2000 = U at *
  rw [w64 (x := S + U) (by omega) (by omega)]
  have e : (!decide (S + U > 1000 * M)) = decide (S + U ≤ 1000 * M) := by
   by_cases q : S + U ≤ 1000 * M
   ·rw [decide_eq_true q, decide_eq_false (by omega)]; rfl
   ·rw [decide_eq_false q, decide_eq_true (by omega)]; rfl
  rw [e]
  exact Ev.now _
theorem bornE_ev {l m s : List Int} {a b c : Int} {k : Nat} {v : Int} (e1 : errB l m s a b c = 0) (hk : k < l.length) (hv : 0 ≤ v ∧ v ≤ 1152921504606846976) (tr : Bool) (e : S29) (he0 : e.f0 = v)
  (hL : 100 ≤ rd l (k : Int) ∧ rd l (k : Int) ≤ 131072) (hM : 1 ≤ rd s (k : Int) ∧ rd s (k : Int) ≤ 1073741824) :
  Ev (fun n => gooseneckref06_BornEnd.f n l m s a b c (k : Int) v tr) (!failE a (restV b c tr) (rd l (k : Int)) (rd s (k : Int)) e) := by
 obtain ⟨g1, g2, g3, g4, ha, hb, hc, _⟩ := errB_zero e1
 unfold gooseneckref06_BornEnd.f
 simp only [if_pos (show (0 : Int) ≤ (k : Int) by omega), if_pos (show (k : Int) < (l.length : Int) by omega), if_pos (show (k : Int) < (s.length : Int) by omega)]
 generalize rd l (k : Int) = L at *
 generalize rd s (k : Int) = M at *
 rw [w64 (x := 1000 + a) (by omega) (by omega), w64 (x := 1000 * L) (by omega) (by omega), (rest_up e1).1]
 refine Ev.bind (up4_share ha hv hL) ?_
 obtain ⟨_, s0, s1⟩ := share_fit ha hv hL
 unfold failE
 rw [he0]
 generalize shareZ (1000 + a) v (1000 * L) = S at *
 cases tr with
 | false =>
  simp only [Bool.false_eq_true, if_false]
  have : upI (restV b c false * L) 2000 = 0 := by simp [restV, upI]
  rw [this]
  have e : (!decide (S + 0 > M)) = decide (S ≤ M) := by
   by_cases q : S ≤ M
   ·rw [decide_eq_true q, decide_eq_false (by omega)]; rfl
   ·rw [decide_eq_false q, decide_eq_true (by omega)]; rfl
  rw [e]
  exact Ev.now _
 | true =>
  have hr : restV b c true = (b - 1) * c := by simp [restV]
  rw [hr]
  obtain ⟨_, r0, r1⟩ := rest_up e1
  generalize (b - 1) * c = R at *
  have m0 : 0 ≤ R * L := Int.mul_nonneg r0 (by omega)
  have m1 : R * L ≤ 12288 * 131072 := Int.mul_le_mul r1 (by omega) (by omega) (by decide)
  rw [w64 (x := R * L) (by omega) (by omega)]
  simp only [if_true, upR_eq m0 (show R * L ≤ 4611686018427387904 by omega) (show (1 : Int) ≤ 2000 by decide) (by decide), Option.bind_some]
  have u0 := upI_nonneg (n := R * L) (d := 2000) m0 (by decide)
  have u1 := upI_le (n := R * L) (d := 2000) m0 (by decide)
  generalize upI (R * L) 2000 = U at *
  rw [w64 (x := S + U) (by omega) (by omega)]
  have e : (!decide (S + U > M)) = decide (S + U ≤ M) := by
   by_cases q : S + U ≤ M
   ·rw [decide_eq_true q, decide_eq_false (by omega)]; rfl
   ·rw [decide_eq_false q, decide_eq_true (by omega)]; rfl
  rw [e]
  exact Ev.now _
end Go.Proofs.Ytiklpefckadgdaa.P
namespace Go.Proofs.Ytiklpefckadgdaa.P
open Go.RowKit Go.Proofs.YtiklpefckadgdaaW.PrintWords Go.Proofs.YtiklpefckadgdaaW.PrintLast Go.Proofs.YtiklpefckadgdaaW.PrintMore
theorem great_eq (sp mo sh : List Int) (a b c : Int) (t : List S35) : ∃ g, goosenecklaw06_great.f sp mo sh a b c t = some g := by
 unfold goosenecklaw06_great.f
 split
 ·exact ⟨_, rfl⟩
 ·split
  ·exact ⟨_, rfl⟩
  ·split
   ·exact ⟨_, rfl⟩
   ·exact ⟨_, rfl⟩
end Go.Proofs.Ytiklpefckadgdaa.P
namespace Go.Proofs.Ytiklpefckadgdaa.P
open Go.RowKit Go.Proofs.YtiklpefckadgdaaW.PrintWords Go.Proofs.YtiklpefckadgdaaW.PrintLast Go.Proofs.YtiklpefckadgdaaW.PrintMore
set_option linter.unusedVariables false
set_option linter.unusedSimpArgs false
theorem rd_mid' (p q : List S35) (a : S35) : rd_T35 (p ++ a :: q) ((p.length : Nat) : Int) = a := by simp [rd_T35]
theorem known_bo : Ev (fun k => (goosenecklaw06_known.f k).bind fun t => some t) true := Ev.bind known_ev (Ev.now _)
def moreF (n : Int) (x : S35) : S35 := ⟨x.f0, mn 1048576 (wrap64 (x.f1 + wrap64 n))⟩
def moreL (n : Int) (t : List S35) : List S35 := t.map (moreF n)
theorem mn_eq (a b : Int) : mn a b = if b < a then b else a := rfl
theorem moreF_eq {n : Int} (hn : 0 ≤ n ∧ n ≤ 255) {x : S35} (hx : 0 ≤ x.f1 ∧ x.f1 ≤ 1048576) : x.f1 ≤ (moreF n x).f1 ∧ (moreF n x).f1 ≤ 1048576 := by
 unfold moreF
 simp only
 rw [w64 (x := n) (by omega) (by omega), w64 (by omega) (by omega), mn_eq]
 split <;> omega
theorem more_le {n : Int} (hn : 0 ≤ n ∧ n ≤ 255) : ∀ {t : List S35}, (∀ x ∈ t, 0 ≤ x.f1 ∧ x.f1 ≤ 1048576) → LeT t (moreL n t)
 | [], _ => trivial
 | x :: r, h => ⟨rfl, (moreF_eq hn (h x (List.mem_cons_self ..))).1, more_le hn fun y hy => h y (List.mem_cons_of_mem _ hy)⟩
theorem more_trainOk {n : Int} (hn : 0 ≤ n ∧ n ≤ 255) : ∀ (t : List S35) (a : Int) (b : Bool), trainOk a b t = true → trainOk a b (moreL n t) = true
 | [], _, _, _ => rfl
 | x :: r, a, b, h => by
  simp only [moreL, List.map_cons, trainOk, Bool.and_eq_true, decide_eq_true_eq, inR_iff] at h ⊢
  obtain ⟨q1, q2, q3, q4, q5⟩ := h
  have := moreF_eq hn (x := x) q4
  exact ⟨q1, q2, q3, ⟨by omega, this.2⟩, more_trainOk hn r _ _ q5⟩
theorem more_errT {n : Int} (hn : 0 ≤ n ∧ n ≤ 255) {t : List S35} (h : errT t = 0) : errT (moreL n t) = 0 := by
 obtain ⟨b1, b2, b3⟩ := errT_zero h
 unfold errT
 rw [show (moreL n t).length = t.length by simp [moreL], if_neg (by omega), if_pos (more_trainOk hn t _ _ b3)]
theorem more_loop {n : Int} (T : List S35) (tr : Bool) (l m s l' m' s' : List Int) (a b c a' b' c' : Int) (N : Nat) (hN : N ≤ 1000) (g : Bool)
  (hend : ∀ u, u = moreL n T → Ev (fun k => (bridge_Bears.f k l' m' s' a' b' c' u tr).bind fun bt143 => ((bridge_Bears.f k l m s a b c T true).bind fun bt149 => (if bt143.2.2.2.2 = 14 then (if bt149.2.2.2.2 = 14 then ((goosenecklaw06_known.f k).bind fun t155 => (some t155)) else (some false)) else (some false)))) g) :
  ∀ (q p : List S35), T = p ++ q → T.length = N → Ev (fun k => goosenecklaw06_BridgeBorne.l0 k T tr n (moreL n p ++ q) (p.length : Int) l m s a b c l' m' s' a' b' c') g := by
 intro q
 induction q with
 | nil =>
  intro p hT hl
  refine Ev.step (fun k => by rw [goosenecklaw06_BridgeBorne.l0]) ?_
  simp only [if_neg (show ¬ ((p.length : Int) < ((moreL n p ++ []).length : Int)) by simp [moreL])]
  refine hend _ ?_
  rw [hT]; simp
 | cons x q ih =>
  intro p hT hl
  have hlp : p.length < 1000 := by rw [hT] at hl; simp at hl; omega
  refine Ev.step (fun k => by rw [goosenecklaw06_BridgeBorne.l0]) ?_
  simp only [if_pos (show (p.length : Int) < ((moreL n p ++ x :: q).length : Int) by simp [moreL]; omega), if_pos (show (0 : Int) ≤ (p.length : Int) by omega)]
  have e0 : rd_T35 (moreL n p ++ x :: q) (p.length : Int) = x := by
   have := rd_mid' (moreL n p) q x
   rwa [show (moreL n p).length = p.length by simp [moreL]] at this
  have e1 : wrap64 ((p.length : Int) + 1) = ((p ++ [x]).length : Int) := by rw [w64 (by omega) (by omega)]; simp
  rw [e0, e1]
  have e2 : (moreL n p ++ x :: q).set ((p.length : Int)).toNat (⟨x.f0, mn 1048576 (wrap64 (x.f1 + wrap64 n))⟩ : S35) = moreL n (p ++ [x]) ++ q := by
   rw [Int.toNat_natCast, List.set_append_right _ _ (by simp [moreL]), show p.length - (moreL n p).length = 0 by simp [moreL]]
   simp [moreL, moreF]
  rw [e2]
  exact ih (p ++ [x]) (by rw [hT]; simp) hl
theorem BridgeBorne_pure : BridgeBorne_Pure := by
 rintro ⟨l, m, s, a, b, c⟩ t tr sp pt p mo _ _ w3 w4 w5 w6
 have b3 : 0 ≤ sp ∧ sp ≤ 255 := wf_u8 w3
 have b4 : 0 ≤ pt ∧ pt ≤ 255 := wf_u8 w4
 have b6 : 0 ≤ mo ∧ mo ≤ 255 := wf_u8 w6
 refine Ev.rounds (g := fun k => goosenecklaw06_BridgeBorne.f k l m s a b c t tr sp pt p mo) ?_
 unfold goosenecklaw06_BridgeBorne.f
 have j0 : ∀ g : Bool, Ev (fun k => goosenecklaw06_BridgeBorne.j0 k t tr sp pt p mo g l m s a b c) true := by
  intro g
  refine Ev.step (fun k => by rw [goosenecklaw06_BridgeBorne.j0]) ?_
  cases g with
  | true => simp only [if_true]; exact known_bo
  | false =>
   simp only [Bool.false_eq_true, if_false]
   by_cases h0 : errBT l m s a b c t = 0
   ·obtain ⟨e1, e2⟩ : errB l m s a b c = 0 ∧ errT t = 0 := by
     unfold errBT at h0
     split at h0
     ·exact absurd h0 ‹_›
     ·rename_i q; exact ⟨by simpa using q, h0⟩
    have hc := checkR_ev l m s a b c
    rw [e1] at hc
    obtain ⟨g1, g2, g3, g4, ga, gb, gc, gs⟩ := errB_zero e1
    obtain ⟨y, hy, hz⟩ := bears_ok (l := l) (m := m) (s := s) (a := a) (b := b) (c := c) tr e1 e2
    refine Ev.bind hy ?_
    by_cases hF : (bearsR (bearsV l m s a b c t tr)).2 = true
    ·rw [if_pos hF] at hz
     rw [hz]
     simp only [show ((14 : Int) = 0) = False by decide, if_false, show ((14 : Int) != 14) = false by decide]
     refine Ev.step (fun k => by rw [goosenecklaw06_BridgeBorne.j1]) ?_
     simp only [Bool.false_eq_true, if_false]
     refine Ev.bind hc ?_
     simp only [if_true, if_neg (show ¬ (l.length : Int) = 0 by omega), show ((14 : Int) = 0) = False by decide, if_false, Option.bind_some, List.nil_append, List.length_nil]
     simp only [if_pos (show 0 + t.length < 8796093022208 by have := (errT_zero e2).2.1; omega)]
     have hd : mn 1000 (wrap64 (a + wrap64 mo)) = if a + mo < 1000 then a + mo else 1000 := by rw [w64 (x := mo) (by omega) (by omega), w64 (by omega) (by omega), mn_eq]
     have hq : mn 4096 (wrap64 (c + wrap64 mo)) = if c + mo < 4096 then c + mo else 4096 := by rw [w64 (x := mo) (by omega) (by omega), w64 (by omega) (by omega), mn_eq]
     obtain ⟨a', ha'⟩ : ∃ a', mn 1000 (wrap64 (a + wrap64 mo)) = a' := ⟨_, rfl⟩
     obtain ⟨c', hc'⟩ : ∃ c', mn 4096 (wrap64 (c + wrap64 mo)) = c' := ⟨_, rfl⟩
     rw [ha'] at hd ⊢
     rw [hc'] at hq ⊢
     have ba : a ≤ a' ∧ a' ≤ 1000 := by rw [hd]; split <;> omega
     have bc : c ≤ c' ∧ c' ≤ 4096 := by rw [hq]; split <;> omega
     have e1' : errB l m s a' b c' = 0 := by
      unfold errB
      rw [if_neg (by omega), if_neg (fun h => h ⟨by omega, by omega⟩), if_neg (fun h => h ⟨inR_iff.2 ⟨by omega, by omega⟩, by omega, by omega, inR_iff.2 ⟨by omega, by omega⟩⟩), if_pos gs]
     have e2' := more_errT b6 e2
     have hle : LeT t (moreL mo t) := more_le b6 fun x hx => (okForces e2 x hx).2
     have hm1 := bears_mono (tr := tr) (tr' := tr) e1 e1' ba.1 bc.1 e2 e2' hle (fun h => h) hF
     have hm2 := bears_mono (tr := tr) (tr' := true) e1 e1 (Int.le_refl _) (Int.le_refl _) e2 e2 (LeT.refl t) (fun _ => rfl) hF
     obtain ⟨y1, hy1, hz1⟩ := bears_ok (l := l) (m := m) (s := s) (a := a') (b := b) (c := c') tr e1' e2'
     obtain ⟨y2, hy2, hz2⟩ := bears_ok (l := l) (m := m) (s := s) (a := a) (b := b) (c := c) true e1 e2
     rw [if_pos hm1] at hz1
     rw [if_pos hm2] at hz2
     refine more_loop t tr l m s l m s a b c a' b c' t.length (by have := (errT_zero e2).2.1; omega) true ?_ t [] rfl rfl
     rintro u rfl
     refine Ev.bind hy1 (Ev.bind hy2 ?_)
     simp only [hz1, hz2, if_true]
     exact known_bo
    ·rw [if_neg hF] at hz
     rw [hz]
     simp only [if_true]
     refine Ev.step (fun k => by rw [goosenecklaw06_BridgeBorne.j1]) ?_
     simp only [Bool.false_eq_true, if_false]
     refine Ev.bind hc ?_
     obtain ⟨k, hk, hkl⟩ : ∃ k : Nat, Int.tmod (wrap64 sp) (l.length : Int) = (k : Int) ∧ k < l.length := by
      refine ⟨sp.toNat % l.length, ?_, Nat.mod_lt _ (by omega)⟩
      rw [w64 (by omega) (by omega)]
      obtain ⟨n, rfl⟩ := Int.eq_ofNat_of_zero_le b3.1
      rfl
     obtain ⟨j, hj, hjl⟩ : ∃ j : Nat, Int.tmod pt 15 = (j : Int) ∧ j < 15 := by
      refine ⟨pt.toNat % 15, ?_, Nat.mod_lt _ (by decide)⟩
      obtain ⟨n, rfl⟩ := Int.eq_ofNat_of_zero_le b4.1
      rfl
     rw [hk, hj]
     have hL := rd_span e1 hkl
     have hM := spansOk_ms gs k hkl
     simp only [if_true, if_neg (show ¬ (l.length : Int) = 0 by omega), if_pos (show (0 : Int) ≤ (k : Int) by omega), if_pos (show (k : Int) < (l.length : Int) by omega)]
     refine Ev.bind (points_ev (show 0 ≤ rd l (k : Int) ∧ rd l (k : Int) ≤ 131072 by omega)) ?_
     simp only [if_pos (show (0 : Int) ≤ (j : Int) by omega), if_pos (show (j : Int) < ((pointsL (rd l (k : Int))).length : Int) by rw [pointsL_len]; omega)]
     rw [pointsL_get _ hjl]
     have hx := point_bd (L := rd l (k : Int)) (by omega) hjl
     obtain ⟨X, hX⟩ : ∃ X, rd l (k : Int) * ((j + 1 : Nat) : Int) / 16 = X := ⟨_, rfl⟩
     rw [hX] at hx ⊢
     have eS : errS l m s a b c t (k : Int) = 0 := by
      unfold errS
      rw [h0, if_neg (by simp), if_neg (by omega)]
     rw [Moment_eq, End_eq, End_eq, eS]
     simp only [if_true, if_pos (inR_iff.2 hx), Option.bind_some]
     by_cases hp : inR p (-4194304) 4194304 = true
     ·simp only [if_pos hp, if_true]
      have hpb := inR_iff.1 hp
      have hst := startW_bd e1 k
      have nf : ¬ SpanFails l m s a (restV b c tr) t k := fun h => hF ((bears_iff ..).2 ⟨k, hkl, h⟩)
      rw [show ((k : Int)).toNat = k from Int.toNat_natCast k]
      have vm : effW (momentW (startW l k) (rd l (k : Int)) X) t p = effS (fun y => momentI (rd l (k : Int)) X (y - startW l k)) p t := effW_moment (by omega) (by omega) hx (by omega) e2
      have ve : ∀ r, effW (endW (startW l k) (rd l (k : Int)) r) t p = effS (fun y => endI (rd l (k : Int)) r (y - startW l k)) p t := fun r => effW_end (by omega) (by omega) (by omega) e2
      rw [vm, ve, ve]
      have wm := momentWorst_all (k := k) e1 e2 (show 0 ≤ rd l (k : Int) ∧ rd l (k : Int) ≤ 131072 by omega) hx p
      have pm := effS_le60 (f := fun y => momentI (rd l (k : Int)) X (y - startW l k)) (s := p) (fun y => momentI_bd (by omega) hx _) e2
      have pe : ∀ r, 0 ≤ effS (fun y => endI (rd l (k : Int)) r (y - startW l k)) p t ∧ effS (fun y => endI (rd l (k : Int)) r (y - startW l k)) p t ≤ 1152921504606846976 := fun r => effS_le60 (fun y => endI_bd (by omega) _) e2
      have wl := endWorst_all (k := k) (point := -1) (right := false) e1 e2 (show 0 ≤ rd l (k : Int) ∧ rd l (k : Int) ≤ 131072 by omega) p
      have wr := endWorst_all (k := k) (point := -2) (right := true) e1 e2 (show 0 ≤ rd l (k : Int) ∧ rd l (k : Int) ≤ 131072 by omega) p
      have r0 := (restV_bd e1 tr).1
      have q1 := bornM_ev (k := k) (x := X) e1 hkl hx pm tr ⟨_, 0, X, 0⟩ rfl rfl hL hM.1
      have q2 := bornE_ev (k := k) e1 hkl (pe false) tr ⟨_, 0, 0, 0⟩ rfl hL hM.2
      have q3 := bornE_ev (k := k) e1 hkl (pe true) tr ⟨_, 0, 0, 0⟩ rfl hL hM.2
      have f1 : failM a (restV b c tr) (rd l (k : Int)) (rd m (k : Int)) ⟨effS (fun y => momentI (rd l (k : Int)) X (y - startW l k)) p t, 0, X, 0⟩ = false := by
       rw [Bool.eq_false_iff]
       intro h
       refine nf (.inl ⟨j, hjl, ?_⟩)
       rw [hX]
       refine failM_mono ⟨ga.1, Int.le_refl _⟩ ⟨r0, Int.le_refl _⟩ (by omega) ⟨pm.1, wm⟩ ?_ hx h
       obtain ⟨_, _, e⟩ := momentWorst_bd (k := k) e1 e2 (show 0 ≤ rd l (k : Int) ∧ rd l (k : Int) ≤ 131072 by omega) hx
       rw [e]
      have f2 : failE a (restV b c tr) (rd l (k : Int)) (rd s (k : Int)) ⟨effS (fun y => endI (rd l (k : Int)) false (y - startW l k)) p t, 0, 0, 0⟩ = false := by
       rw [Bool.eq_false_iff]
       intro h
       exact nf (.inr (.inl (failE_mono ⟨ga.1, Int.le_refl _⟩ ⟨r0, Int.le_refl _⟩ (by omega) ⟨(pe false).1, wl⟩ h)))
      have f3 : failE a (restV b c tr) (rd l (k : Int)) (rd s (k : Int)) ⟨effS (fun y => endI (rd l (k : Int)) true (y - startW l k)) p t, 0, 0, 0⟩ = false := by
       rw [Bool.eq_false_iff]
       intro h
       exact nf (.inr (.inr (failE_mono ⟨ga.1, Int.le_refl _⟩ ⟨r0, Int.le_refl _⟩ (by omega) ⟨(pe true).1, wr⟩ h)))
      rw [f1] at q1
      rw [f2] at q2
      rw [f3] at q3
      refine Ev.bind q1 ?_
      simp only [Bool.not_false, if_true]
      refine Ev.bind q2 ?_
      simp only [Bool.not_false, if_true]
      refine Ev.bind q3 ?_
      simp only [Bool.not_false, if_true]
      exact known_bo
     ·simp only [if_neg hp, show ((3 : Int) = 0) = False by decide, if_false]
      exact known_bo
   ·refine Ev.bind (bears_err tr h0) ?_
    simp only [if_neg h0]
    have h14 : (errBT l m s a b c t != 14) = true := by
     have : errBT l m s a b c t ≠ 14 := by
      unfold errBT errB errT
      intro h
      revert h
      repeat' split
      all_goals simp
     simpa using this
    rw [h14]
    refine Ev.step (fun k => by rw [goosenecklaw06_BridgeBorne.j1]) ?_
    simp only [if_true]
    refine Ev.bind (check_ev l m s a b c) ?_
    by_cases hb : errB l m s a b c = errBT l m s a b c t
    ·simp only [if_pos hb]
     exact known_bo
    ·simp only [if_neg hb]
     refine Ev.bind (checkTrain_ev t) ?_
     have ht : errT t = errBT l m s a b c t := by
      unfold errBT at hb ⊢
      split
      ·rename_i q; rw [if_pos q] at hb; exact absurd rfl hb
      ·rfl
     simp only [if_pos ht]
     exact known_bo
 obtain ⟨g, hg⟩ := great_eq l m s a b c t
 obtain ⟨u, hu⟩ : ∃ u, goosenecklaw06_much.f l m s a b c t = some u := by
  unfold goosenecklaw06_much.f
  split
  ·split
   ·exact ⟨_, rfl⟩
   ·split
    ·exact ⟨_, rfl⟩
    ·exact ⟨_, rfl⟩
  ·split
   ·exact ⟨_, rfl⟩
   ·exact ⟨_, rfl⟩
 simp only [hg, hu, Option.bind_some]
 cases g with
 | true => simp only [if_true]; exact j0 true
 | false => simp only [Bool.false_eq_true, if_false]; exact j0 u
end Go.Proofs.Ytiklpefckadgdaa.P
namespace Go.Proofs.Ytiklpefckadgdaa.bridgeBorne
open Go.ChangeShapes Go.WideShapes Go.ChangeAt Go.RowKit Go.Proofs.Ytiklpefckadgdaa.P
open Go.Proofs.YtiklpefckadgdaaW.PrintWords Go.Proofs.YtiklpefckadgdaaW.PrintLast Go.Proofs.YtiklpefckadgdaaW.PrintMore
open Go.ChangeMaps (open_string shut_string)
set_option linter.unusedVariables false
theorem own : ownKnob Try.prog.godebug = none := by kernel_rfl
theorem laidOut : laidOutB Try.prog = true := by kernel_rfl
set_option maxRecDepth 100000 in
theorem lifted (os : Os) (started : os.Started) (H : Type) (enc : TypeId × Value → H) :
  ReturnsInHanded {} Try.checked os 7 .any (Rows.bridgeBorneSpec.pre6 enc Try.prog Try.f7 Rows.bridgeBorneRow.domain false) (Rows.bridgeBorneSpec.post enc Try.prog Try.f7 false true false false) := by
 refine returnsInHanded_of_change_sized (C := Try.checked) own started (by kernel_rfl) Try.func7
  (ChangeSpec.witness6 (enc := enc) (C := Try.checked) false ⟨#[], #[.agg #[.slice none 0 0, .slice none 0 0, .slice none 0 0, .int .i64 0, .int .i64 0, .int .i64 0], .slice none 0 0, .bool false, .int .u8 0, .int .u8 0, .int .i64 0, .int .u8 0], []⟩ 8 (by kernel_rfl) (by kernel_rfl) (by kernel_rfl) (by kernel_rfl)) ?_
 intro W base args ds gs before hval0 hW hcnd hsz0 _
 have hval : ∀ (j : Nat) t v, Try.f7.params[j]? = some t → args[j]? = some v → Value.okWide Try.prog W .any base t v := hval0
 have hW' := hW
 obtain ⟨p, q, hA0, hV, rfl, hfz, hnd⟩ := hW
 have hA : DataW.TrodAll enc Try.prog W 0 (fun _ => true) true Try.f7.params.toList args.toList ds p := hA0
 rw [Try.params7] at hA hval
 obtain ⟨v0, vs0, d0, ds0, p0, q0, hargs, rfl, rfl, h0, r0⟩ := trodAll_cons hA
 obtain ⟨v1, vs1, d1, ds1, p1, q1, rfl, rfl, rfl, h1, r1⟩ := trodAll_cons r0
 obtain ⟨v2, vs2, d2, ds2, p2, q2, rfl, rfl, rfl, h2, r2⟩ := trodAll_cons r1
 obtain ⟨v3, vs3, d3, ds3, p3, q3, rfl, rfl, rfl, h3, r3⟩ := trodAll_cons r2
 obtain ⟨v4, vs4, d4, ds4, p4, q4, rfl, rfl, rfl, h4, r4⟩ := trodAll_cons r3
 obtain ⟨v5, vs5, d5, ds5, p5, q5, rfl, rfl, rfl, h5, r5⟩ := trodAll_cons r4
 obtain ⟨v6, vs6, d6, ds6, p6, q6, rfl, rfl, rfl, h6, r6⟩ := trodAll_cons r5
 obtain ⟨rfl, rfl, rfl⟩ := trodAll_nil r6
 obtain rfl : args = #[v0, v1, v2, v3, v4, v5, v6] := by cases args; simp_all
 obtain ⟨rfl, rfl⟩ := trodVars_none hV
 have k0 := h0
 have lt0 : ∀ x ∈ p0, x.block < W.heap.size := by obtain ⟨m, hm⟩ := k0; exact DataW.trod_lt m _ _ _ hm
 obtain ⟨cs0, rfl, hz0⟩ := okWide_struct Try.underlying24 (hval 0 24 v0 rfl rfl)
 obtain ⟨f0, hf0⟩ := h0
 obtain ⟨x0, hK0, w0⟩ := opens24 H enc W _ _ _ _ _ _ hf0
 obtain ⟨A0_0, c0_0, A0_1, c0_1, A0_2, c0_2, e0, hc0_0, hr0_0, hc0_1, hr0_1, hc0_2, hr0_2⟩ := k24_open hK0
 obtain rfl : cs0 = #[.slice A0_0 x0.f0.length c0_0, .slice A0_1 x0.f1.length c0_1, .slice A0_2 x0.f2.length c0_2, .int .i64 x0.f3, .int .i64 x0.f4, .int .i64 x0.f5] := by apply Array.toList_inj.1; simpa [Value.cells] using e0
 have k1 := h1
 have lt1 : ∀ x ∈ p1, x.block < W.heap.size := by obtain ⟨m, hm⟩ := k1; exact DataW.trod_lt m _ _ _ hm
 obtain ⟨a1, len1, cap1, rfl⟩ := okWide_slice Try.underlying25 (hval 1 25 v1 rfl rfl)
 obtain ⟨f1, hf1⟩ := h1
 obtain ⟨l1, ⟨A1, c1, e1, hc1, hr1⟩, w1⟩ := (Opens.slice Try.underlying25 (by kernel_rfl) opens35) H enc W _ _ _ _ _ _ hf1
 simp [Value.cells] at e1
 obtain ⟨rfl, rfl, rfl⟩ := e1
 obtain ⟨a2, rfl, rfl, rfl⟩ := open_bool Try.underlying4 (hval 2 4 v2 rfl rfl) h2
 obtain ⟨a3, rfl, rfl, rfl, w3⟩ := open_int Try.underlying5 (hval 3 5 v3 rfl rfl) h3
 obtain ⟨a4, rfl, rfl, rfl, w4⟩ := open_int Try.underlying5 (hval 4 5 v4 rfl rfl) h4
 obtain ⟨a5, rfl, rfl, rfl, w5⟩ := open_int Try.underlying2 (hval 5 2 v5 rfl rfl) h5
 obtain ⟨a6, rfl, rfl, rfl, w6⟩ := open_int Try.underlying5 (hval 6 5 v6 rfl rfl) h6
 clear hA0 hval0 hsz0
 obtain ⟨k, hk⟩ := BridgeBorne_pure x0 l1 a2 a3 a4 a5 a6 w0 w1 w3 w4 w5 w6
 refine (goosenecklaw06_BridgeBorne.calls k _ _ x0.f0 _ _ x0.f1 _ _ x0.f2 x0.f3 x0.f4 x0.f5 _ _ l1 a2 a3 a4 a5 a6 true W hr0_0 hc0_0 hr0_1 hc0_1 hr0_2 hc0_2 hr1 hc1 ⟨rfl⟩ hk).mono fun e W' ⟨he, bel⟩ => ?_
 subst he
 exact ⟨_, rfl, _, _, _, [], _, [], hW', trodAll_mk1 (shut_bool Try.underlying4 _), (trodAll_cons_mk (Below.trod laidOut (by kernel_rfl) (of_decide_eq_true (by kernel_rfl)) k0 bel lt0) (trodAll_cons_mk (Below.trod laidOut (by kernel_rfl) (of_decide_eq_true (by kernel_rfl)) k1 bel lt1) (trodAll_cons_mk (shut_bool Try.underlying4 _) (trodAll_cons_mk (shut_int Try.underlying5 w3) (trodAll_cons_mk (shut_int Try.underlying5 w4) (trodAll_cons_mk (shut_int Try.underlying2 w5) (trodAll_cons_mk (shut_int Try.underlying5 w6) trodAll_mk0))))))), rfl, bel.frame _, fun h => by cases h⟩
theorem over : Rows.bridgeBorneRow.holds Try.pinned (OpenSpec.ofChange Rows.bridgeBorneSpec) :=
 OpenClaim.holds_of_wide 7 Try.f7 rfl rfl rfl rfl rfl rfl rfl ⟨rfl, rfl, rfl, rfl, rfl⟩ rfl rfl rfl rfl rfl (by kernel_rfl) Try.func7 (by kernel_rfl)
  (of_decide_eq_true (by kernel_rfl)) (by unfold Func.isWrapper; first | (rw [if_pos (by decide +kernel)]; kernel_rfl) | (rw [if_neg (by decide +kernel)]; exact ⟨rfl, rfl⟩))
  (fun os started H enc _ => lifted os started H enc)
theorem proved : Rows.BridgeBorneSaid := over
#print axioms proved
end Go.Proofs.Ytiklpefckadgdaa.bridgeBorne
namespace Go.Proofs.Ytiklpefckadgdaa
theorem bridgeBorne_holds : Rows.BridgeBorneSaid := bridgeBorne.proved
end Go.Proofs.Ytiklpefckadgdaa
