/- The law BridgeMirrors answers true at every input and leaves its arguments as they were; no condition. Part 4 of 4: the row. -/
import Derived.Test.YtiklpefckadgdaaCBridgeMirrors2
import Derived.Test.YtiklpefckadgdaaRows
import Derived.WalkKit
import Derived.ProofKit
import Derived.OpenShut
import Derived.ShutString
import Derived.ChangeOld
import Derived.Below
import Derived.SizedLaws
import Derived.Carry
import Derived.Lib.SmallJoins
namespace Go.Proofs.Ytiklpefckadgdaa.P
open Go.RowKit Go.Proofs.YtiklpefckadgdaaW.PrintWords Go.Proofs.YtiklpefckadgdaaW.PrintLast Go.Proofs.YtiklpefckadgdaaW.PrintMore

/-! ### the sum -/
/-- The effect of a train, in whole numbers. -/
def effS (line : Int → Int) (s : Int) : List S35 → Int
  | [] => 0
  | x :: r => x.f1 * line (s - x.f0) + effS line s r
def OkForce (x : S35) : Prop := (0 ≤ x.f0 ∧ x.f0 ≤ 262144) ∧ (0 ≤ x.f1 ∧ x.f1 ≤ 1048576)
theorem effS_bd {line : Int → Int} {s : Int} (hline : ∀ a, 0 ≤ line a ∧ line a ≤ 17179869184) : ∀ {l : List S35}, (∀ x ∈ l, OkForce x) → 0 ≤ effS line s l ∧ effS line s l ≤ l.length * 18014398509481984
  | [], _ => by simp [effS]
  | x :: r, h => by
    have ih := effS_bd (line := line) (s := s) hline (l := r) (fun y hy => h y (List.mem_cons_of_mem _ hy))
    have hx := h x (List.mem_cons_self ..)
    have hb := hline (s - x.f0)
    have m0 := Int.mul_nonneg hx.2.1 hb.1
    have m1 := Int.mul_le_mul hx.2.2 hb.2 hb.1 (by omega)
    simp only [effS, List.length_cons] at *
    omega
theorem sumW_from {line : Int → Int} {s : Int} (hline : ∀ a, 0 ≤ line a ∧ line a ≤ 17179869184) (hs : -1099511627776 ≤ s ∧ s ≤ 1099511627776) : ∀ (l : List S35) (n : Int), (∀ x ∈ l, OkForce x) → 0 ≤ n → n + l.length * 18014398509481984 ≤ 2305843009213693952 →
    (l.map (axleW line s)).foldl (fun n x => wrap64 (n + x)) n = n + effS line s l
  | [], n, _, _, _ => by simp [effS]
  | x :: r, n, h, h0, h1 => by
    have hx := h x (List.mem_cons_self ..)
    have hb := hline (s - x.f0)
    have m0 := Int.mul_nonneg hx.2.1 hb.1
    have m1 := Int.mul_le_mul hx.2.2 hb.2 hb.1 (by omega)
    have e1 : wrap64 (s - x.f0) = s - x.f0 := by have := hx.1; exact w64 (by omega) (by omega)
    have ea : axleW line s x = x.f1 * line (s - x.f0) := by
      unfold axleW
      rw [e1]
      by_cases hp : 0 < x.f1
      · rw [if_pos hp, w64 (by omega) (by omega)]
      · rw [if_neg hp]
        have hx2 : 0 ≤ x.f1 := hx.2.1
        have : x.f1 = 0 := by omega
        rw [this, Int.zero_mul]
    simp only [List.length_cons] at h1
    rw [List.map_cons, List.foldl_cons, ea, w64 (by omega) (by omega), sumW_from hline hs r _ (fun y hy => h y (List.mem_cons_of_mem _ hy)) (by omega) (by omega), effS]
    omega
theorem effW_eq {line : Int → Int} {s : Int} {l : List S35} (hline : ∀ a, 0 ≤ line a ∧ line a ≤ 17179869184) (hs : -1099511627776 ≤ s ∧ s ≤ 1099511627776) (hl : l.length ≤ 64) (h : ∀ x ∈ l, OkForce x) :
    effW line l s = effS line s l := by
  have := sumW_from hline hs l 0 h (by omega) (by omega)
  simpa [effW, sumW] using this
theorem effS_congr {f g : Int → Int} {s t : Int} : ∀ {l : List S35}, (∀ x ∈ l, f (s - x.f0) = g (t - x.f0)) → effS f s l = effS g t l
  | [], _ => rfl
  | x :: r, h => by
    rw [effS, effS, h x (List.mem_cons_self ..), effS_congr (fun y hy => h y (List.mem_cons_of_mem _ hy))]
theorem effS_append {f : Int → Int} {s : Int} : ∀ (l m : List S35), effS f s (l ++ m) = effS f s l + effS f s m
  | [], m => by simp [effS]
  | x :: r, m => by rw [List.cons_append, effS, effS, effS_append r m]; omega

/-! ### the lines in whole numbers -/
def momentI (l x a : Int) : Int := if a < 0 ∨ l < a then 0 else if a ≤ x then a * (l - x) else x * (l - a)
def endI (l : Int) (right : Bool) (a : Int) : Int := if a < 0 ∨ l < a then 0 else if right = true then a else l - a
theorem momentW_eq {s l x a : Int} (ha : -4611686018427387904 ≤ a - s ∧ a - s ≤ 4611686018427387904) (hl : 0 ≤ l ∧ l ≤ 131072) (hx : 0 ≤ x ∧ x ≤ l) : momentW s l x a = momentI l x (a - s) := by
  unfold momentW momentI
  rw [w64 (x := a - s) (by omega) (by omega)]
  by_cases h : a - s < 0 ∨ l < a - s
  · rw [if_pos h, if_pos h]
  · rw [if_neg h, if_neg h, w64 (x := l - x) (by omega) (by omega), w64 (x := l - (a - s)) (by omega) (by omega)]
    have hb : ∀ u v : Int, 0 ≤ u → u ≤ 131072 → 0 ≤ v → v ≤ 131072 → wrap64 (u * v) = u * v := fun u v h0 h1 h2 h3 => by
      have := Int.mul_nonneg h0 h2
      have := Int.mul_le_mul h1 h3 h2 (by omega)
      exact w64 (by omega) (by omega)
    rw [hb _ _ (by omega) (by omega) (by omega) (by omega), hb _ _ (by omega) (by omega) (by omega) (by omega)]
theorem endW_eq {s l a : Int} {right : Bool} (ha : -4611686018427387904 ≤ a - s ∧ a - s ≤ 4611686018427387904) (hl : 0 ≤ l ∧ l ≤ 131072) : endW s l right a = endI l right (a - s) := by
  unfold endW endI
  rw [w64 (x := a - s) (by omega) (by omega)]
  by_cases h : a - s < 0 ∨ l < a - s
  · rw [if_pos h, if_pos h]
  · rw [if_neg h, if_neg h, w64 (x := l - (a - s)) (by omega) (by omega)]
theorem momentI_bd {l x : Int} (hl : 0 ≤ l ∧ l ≤ 131072) (hx : 0 ≤ x ∧ x ≤ l) (a : Int) : 0 ≤ momentI l x a ∧ momentI l x a ≤ 17179869184 := by
  have hb : ∀ u v : Int, 0 ≤ u → u ≤ 131072 → 0 ≤ v → v ≤ 131072 → 0 ≤ u * v ∧ u * v ≤ 17179869184 := fun u v h0 h1 h2 h3 => by
    have := Int.mul_nonneg h0 h2
    have := Int.mul_le_mul h1 h3 h2 (by omega)
    omega
  unfold momentI
  split
  · omega
  · split
    · exact hb _ _ (by omega) (by omega) (by omega) (by omega)
    · exact hb _ _ (by omega) (by omega) (by omega) (by omega)
theorem endI_bd {l : Int} {right : Bool} (hl : 0 ≤ l ∧ l ≤ 131072) (a : Int) : 0 ≤ endI l right a ∧ endI l right a ≤ 17179869184 := by
  unfold endI
  split
  · omega
  · split <;> omega
/-- Seen from the other end. -/
theorem momentI_mirror {l x : Int} (hx : 0 ≤ x ∧ x ≤ l) (a : Int) : momentI l (l - x) (l - a) = momentI l x a := by
  unfold momentI
  by_cases h : a < 0 ∨ l < a
  · rw [if_pos h, if_pos (by omega)]
  · rw [if_neg h, if_neg (by omega)]
    by_cases h1 : a ≤ x
    · rw [if_pos h1]
      by_cases h2 : l - a ≤ l - x
      · have : a = x := by omega
        subst this
        rw [if_pos h2, show l - (l - a) = a by omega, Int.mul_comm]
      · rw [if_neg h2, show l - (l - a) = a by omega, Int.mul_comm]
    · rw [if_neg h1, if_pos (by omega), show l - (l - x) = x by omega, Int.mul_comm]
theorem endI_mirror {l : Int} (a : Int) : endI l true (l - a) = endI l false a := by
  unfold endI
  by_cases h : a < 0 ∨ l < a
  · rw [if_pos h, if_pos (by omega)]
  · rw [if_neg h, if_neg (by omega), if_pos rfl, if_neg (by decide)]

/-! ### the best -/
theorem best_some (l : List S29) (hne : l ≠ []) : ∃ b, bestO ltW l = some b ∧ b ∈ l ∧ ∀ x ∈ l, x.f0 ≤ b.f0 := by
  have key : ∀ (l : List S29) (o : Option S29), (∃ b, l.foldl (bestStep ltW) o = some b ∧ (b ∈ l ∨ o = some b) ∧ (∀ x ∈ l, x.f0 ≤ b.f0) ∧ (∀ x, o = some x → x.f0 ≤ b.f0)) ∨ (l = [] ∧ o = none) := by
    intro l
    induction l with
    | nil =>
      intro o
      cases o with
      | none => exact .inr ⟨rfl, rfl⟩
      | some b => exact .inl ⟨b, rfl, .inr rfl, by simp, fun x hx => by cases hx; exact Int.le_refl _⟩
    | cons x r ih =>
      intro o
      left
      rw [List.foldl_cons]
      rcases ih (bestStep ltW o x) with ⟨b, h1, h2, h3, h4⟩ | ⟨_, h2⟩
      · refine ⟨b, h1, ?_, ?_, ?_⟩
        · rcases h2 with h2 | h2
          · exact .inl (List.mem_cons_of_mem _ h2)
          · cases o with
            | none => cases h2; exact .inl (List.mem_cons_self ..)
            | some c =>
              simp only [bestStep] at h2
              split at h2
              · cases h2; exact .inl (List.mem_cons_self ..)
              · cases h2; exact .inr rfl
        · intro y hy
          rcases List.mem_cons.1 hy with rfl | hy
          · cases o with
            | none => exact h4 _ rfl
            | some c =>
              by_cases hlt : ltW c y = true
              · exact h4 _ (by simp [bestStep, hlt])
              · have := h4 c (by simp [bestStep, hlt])
                simp [ltW] at hlt
                omega
          · exact h3 y hy
        · intro y hy
          subst hy
          by_cases hlt : ltW y x = true
          · have := h4 x (by simp [bestStep, hlt])
            simp [ltW] at hlt
            omega
          · exact h4 y (by simp [bestStep, hlt])
      · cases o <;> simp [bestStep] at h2
        split at h2 <;> cases h2
  rcases key l none with ⟨b, h1, h2, h3, _⟩ | ⟨h, _⟩
  · refine ⟨b, h1, ?_, h3⟩
    rcases h2 with h2 | h2
    · exact h2
    · cases h2
  · exact absurd h hne
end Go.Proofs.Ytiklpefckadgdaa.P
namespace Go.Proofs.Ytiklpefckadgdaa.P
open Go.RowKit Go.Proofs.YtiklpefckadgdaaW.PrintWords Go.Proofs.YtiklpefckadgdaaW.PrintLast Go.Proofs.YtiklpefckadgdaaW.PrintMore

theorem WorstMoment_eq (l m s : List Int) (a b c : Int) (t : List S35) (k x : Int) : bridge_WorstMoment.f l m s a b c t k x =
    some (if errS l m s a b c t k = 0 then (if inR x 0 (rd l k) = true then effT (momentWorst l t k.toNat (rd l k) x) 0 else effT z29 3) else effT z29 (errS l m s a b c t k)) := by
  unfold bridge_WorstMoment.f
  rw [span_lim, Option.bind_some]
  by_cases h : errS l m s a b c t k = 0
  · rw [if_pos h, if_pos h]
    obtain ⟨h1, h2, h3, h4⟩ := errS_zero h
    have g1 := errB_zero h1
    have g2 := errT_zero h2
    rw [if_pos ⟨h3, h4, by omega, by omega⟩, between_eq, Option.bind_some]
    split <;> rfl
  · rw [if_neg h, if_neg h]
theorem WorstEnd_eq (l m s : List Int) (a b c : Int) (t : List S35) (k : Int) (right : Bool) : bridge_WorstEnd.f l m s a b c t k right =
    some (if errS l m s a b c t k = 0 then effT (endWorst l t k.toNat (rd l k) right (if right = true then rd l k else 0)) 0 else effT z29 (errS l m s a b c t k)) := by
  unfold bridge_WorstEnd.f
  rw [span_lim, Option.bind_some]
  by_cases h : errS l m s a b c t k = 0
  · rw [if_pos h, if_pos h]
    obtain ⟨h1, h2, h3, h4⟩ := errS_zero h
    have g1 := errB_zero h1
    have g2 := errT_zero h2
    rw [if_pos ⟨h3, h4, by omega, by omega⟩]
  · rw [if_neg h, if_neg h]

theorem mem_breaks {l : List S35} {ks : List Int} {s : Int} : s ∈ breaksL l ks ↔ ∃ x ∈ l, ∃ k ∈ ks, s = wrap64 (k + x.f0) := by
  simp only [breaksL, breakRow, List.mem_flatMap, List.mem_map]
  constructor
  · rintro ⟨x, hx, k, hk, rfl⟩; exact ⟨x, hx, k, hk, rfl⟩
  · rintro ⟨x, hx, k, hk, rfl⟩; exact ⟨x, hx, k, hk, rfl⟩
theorem breaks_ne {l : List S35} {k : Int} {ks : List Int} (h : l ≠ []) : breaksL l (k :: ks) ≠ [] := by
  cases l with
  | nil => exact absurd rfl h
  | cons x r => simp [breaksL, breakRow]
theorem worst_val (line : Int → Int) (l : List S35) (ks : List Int) (span point : Int) (hne : breaksL l ks ≠ []) :
    (∃ s ∈ breaksL l ks, worstW line l ks span point = ⟨effW line l s, span, point, s⟩) ∧ ∀ s ∈ breaksL l ks, effW line l s ≤ (worstW line l ks span point).f0 := by
  obtain ⟨b, h1, h2, h3⟩ := best_some (effectsL line l ks span point) (by simpa [effectsL] using hne)
  unfold worstW
  rw [h1, Option.getD_some]
  simp only [effectsL, List.mem_map] at h2 h3
  obtain ⟨s, hs, rfl⟩ := h2
  refine ⟨⟨s, hs, rfl⟩, fun t ht => h3 _ ⟨t, ht, rfl⟩⟩
theorem worst_le {line line' : Int → Int} {l l' : List S35} {ks ks' : List Int} {span point span' point' : Int} (hne : breaksL l ks ≠ []) (hne' : breaksL l' ks' ≠ [])
    (h : ∀ s ∈ breaksL l ks, ∃ t ∈ breaksL l' ks', effW line l s ≤ effW line' l' t) : (worstW line l ks span point).f0 ≤ (worstW line' l' ks' span' point').f0 := by
  obtain ⟨⟨s, hs, e⟩, _⟩ := worst_val line l ks span point hne
  obtain ⟨t, ht, hle⟩ := h s hs
  have := (worst_val line' l' ks' span' point' hne').2 t ht
  rw [e]
  exact Int.le_trans hle this

theorem momentW_I {s l x a : Int} (hl : 0 ≤ l ∧ l ≤ 131072) (hx : 0 ≤ x ∧ x ≤ l) : momentW s l x a = momentI l x (wrap64 (a - s)) := by
  unfold momentW momentI
  by_cases h : wrap64 (a - s) < 0 ∨ l < wrap64 (a - s)
  · rw [if_pos h, if_pos h]
  · rw [if_neg h, if_neg h, w64 (x := l - x) (by omega) (by omega), w64 (x := l - wrap64 (a - s)) (by omega) (by omega)]
    have hb : ∀ u v : Int, 0 ≤ u → u ≤ 131072 → 0 ≤ v → v ≤ 131072 → wrap64 (u * v) = u * v := fun u v h0 h1 h2 h3 => by
      have := Int.mul_nonneg h0 h2
      have := Int.mul_le_mul h1 h3 h2 (by omega)
      exact w64 (by omega) (by omega)
    rw [hb _ _ (by omega) (by omega) (by omega) (by omega), hb _ _ (by omega) (by omega) (by omega) (by omega)]
theorem endW_I {s l a : Int} {right : Bool} (hl : 0 ≤ l ∧ l ≤ 131072) : endW s l right a = endI l right (wrap64 (a - s)) := by
  unfold endW endI
  by_cases h : wrap64 (a - s) < 0 ∨ l < wrap64 (a - s)
  · rw [if_pos h, if_pos h]
  · rw [if_neg h, if_neg h, w64 (x := l - wrap64 (a - s)) (by omega) (by omega)]
theorem okForces {l : List S35} (h : errT l = 0) : ∀ x ∈ l, OkForce x := fun x hx => by
  have := trainOk_all (errT_zero h).2.2 x hx
  exact ⟨⟨this.1, this.2.1⟩, this.2.2⟩
/-- The effect of a train for a moment, in whole numbers. -/
theorem effW_moment {o L x s : Int} {l : List S35} (ho : 0 ≤ o ∧ o ≤ 1048576) (hL : 0 ≤ L ∧ L ≤ 131072) (hx : 0 ≤ x ∧ x ≤ L) (hs : -1099511627776 ≤ s ∧ s ≤ 1099511627776) (h : errT l = 0) :
    effW (momentW o L x) l s = effS (fun a => momentI L x (a - o)) s l := by
  rw [effW_eq (fun a => by rw [momentW_I hL hx]; exact momentI_bd hL hx _) hs (errT_zero h).2.1 (okForces h)]
  refine effS_congr fun y hy => ?_
  have := (okForces h y hy).1
  rw [momentW_I hL hx, w64 (by omega) (by omega)]
theorem effW_end {o L s : Int} {right : Bool} {l : List S35} (ho : 0 ≤ o ∧ o ≤ 1048576) (hL : 0 ≤ L ∧ L ≤ 131072) (hs : -1099511627776 ≤ s ∧ s ≤ 1099511627776) (h : errT l = 0) :
    effW (endW o L right) l s = effS (fun a => endI L right (a - o)) s l := by
  rw [effW_eq (fun a => by rw [endW_I hL]; exact endI_bd hL _) hs (errT_zero h).2.1 (okForces h)]
  refine effS_congr fun y hy => ?_
  have := (okForces h y hy).1
  rw [endW_I hL, w64 (by omega) (by omega)]
theorem startW_zero (l : List Int) : startW l 0 = 0 := by simp [startW, sumW]

/-! ### trains, otherwise said -/
theorem trainOk_iff : ∀ (l : List S35) (last : Int) (first : Bool), trainOk last first l = true ↔ l.Pairwise (fun x y => x.f0 ≤ y.f0) ∧ (∀ x ∈ l, last ≤ x.f0 ∧ x.f0 ≤ 262144 ∧ 0 ≤ x.f1 ∧ x.f1 ≤ 1048576) ∧ (first = true → ∀ y ∈ l.head?, y.f0 = 0)
  | [], last, first => by simp [trainOk]
  | x :: r, last, first => by
    have ih := trainOk_iff r x.f0 false
    simp only [trainOk, Bool.and_eq_true, decide_eq_true_eq, inR_iff, ih, List.pairwise_cons, List.mem_cons, List.head?_cons, Option.mem_def, Option.some.injEq]
    constructor
    · rintro ⟨h1, h2, h3, h4, h5, h6, _⟩
      refine ⟨⟨fun y hy => (h6 y hy).1, h5⟩, ?_, ?_⟩
      · rintro y (rfl | hy)
        · exact ⟨h1, h2, h4⟩
        · have := h6 y hy
          omega
      · rintro rfl y rfl
        simpa using h3
    · rintro ⟨⟨h1, h2⟩, h3, h4⟩
      have hx := h3 x (.inl rfl)
      refine ⟨hx.1, hx.2.1, ?_, hx.2.2, h2, fun y hy => ⟨h1 y hy, (h3 y (.inr hy)).2⟩, by simp⟩
      cases first
      · simp
      · simpa using h4 rfl x rfl
end Go.Proofs.Ytiklpefckadgdaa.P
namespace Go.Proofs.Ytiklpefckadgdaa.P
open Go.RowKit Go.Proofs.YtiklpefckadgdaaW.PrintWords Go.Proofs.YtiklpefckadgdaaW.PrintLast Go.Proofs.YtiklpefckadgdaaW.PrintMore

/-- A train backwards. -/
def backT (last : Int) (l : List S35) : List S35 := l.reverse.map fun x => ⟨last - x.f0, x.f1⟩
theorem effS_reverse {f : Int → Int} {s : Int} (l : List S35) : effS f s l.reverse = effS f s l := by
  induction l with
  | nil => rfl
  | cons x r ih => rw [List.reverse_cons, effS_append, ih, effS, effS, effS]; omega
theorem effS_map {f g : Int → Int} {s t : Int} {m : S35 → S35} : ∀ {l : List S35}, (∀ x ∈ l, (m x).f1 = x.f1 ∧ g (t - (m x).f0) = f (s - x.f0)) → effS g t (l.map m) = effS f s l
  | [], _ => rfl
  | x :: r, h => by
    obtain ⟨h1, h2⟩ := h x (List.mem_cons_self ..)
    rw [List.map_cons, effS, effS, h1, h2, effS_map (fun y hy => h y (List.mem_cons_of_mem _ hy))]
theorem last_ge {l : List S35} (hp : l.Pairwise (fun x y => x.f0 ≤ y.f0)) (hne : l ≠ []) : ∀ x ∈ l, x.f0 ≤ (l.getLast hne).f0 := by
  intro x hx
  have e : l = l.dropLast ++ [l.getLast hne] := (List.dropLast_concat_getLast hne).symm
  rw [e] at hx hp
  rcases List.mem_append.1 hx with h | h
  · exact (List.pairwise_append.1 hp).2.2 x h _ (by simp)
  · rw [List.mem_singleton.1 h]; exact Int.le_refl _
theorem back_ok {l : List S35} (h : errT l = 0) (hne : l ≠ []) : errT (backT (l.getLast hne).f0 l) = 0 := by
  obtain ⟨h1, h2, h3⟩ := errT_zero h
  obtain ⟨p1, p2, p3⟩ := (trainOk_iff l 0 true).1 h3
  have hge := last_ge p1 hne
  have hlast := p2 _ (List.getLast_mem hne)
  have hlen : (backT (l.getLast hne).f0 l).length = l.length := by simp [backT]
  unfold errT
  rw [if_neg (by omega), if_pos]
  refine (trainOk_iff _ _ _).2 ⟨?_, ?_, ?_⟩
  · rw [backT, List.pairwise_map, List.pairwise_reverse]
    exact p1.imp (fun {a b} hab => by simp only; omega)
  · intro y hy
    simp only [backT, List.mem_map, List.mem_reverse] at hy
    obtain ⟨x, hx, rfl⟩ := hy
    have a1 := p2 x hx
    have a2 := hge x hx
    simp only
    omega
  · intro _ y hy
    have e : l = l.dropLast ++ [l.getLast hne] := (List.dropLast_concat_getLast hne).symm
    have : ∀ v, backT v l = ⟨v - (l.getLast hne).f0, (l.getLast hne).f1⟩ :: (l.dropLast.reverse.map fun x => ⟨v - x.f0, x.f1⟩) := by
      intro v
      have e2 : l.reverse = l.getLast hne :: l.dropLast.reverse := by
        have := congrArg List.reverse e
        simpa only [List.reverse_append, List.reverse_cons, List.reverse_nil, List.nil_append, List.cons_append] using this
      rw [backT, e2, List.map_cons]
    rw [this] at hy
    simp only [List.head?_cons, Option.mem_def, Option.some.injEq] at hy
    subst hy
    simp

/-- The values of the worst effects of two lines that are each other's mirror. -/
theorem mirror_le {line line' : Int → Int} {l : List S35} {ks ks' : List Int} {span point span' point' : Int} {last L : Int} (hne : breaksL l ks ≠ []) (hne' : breaksL (backT last l) ks' ≠ [])
    (hl : ∀ x ∈ l, 0 ≤ x.f0 ∧ x.f0 ≤ last) (hlast : last ≤ 262144) (hL : 0 ≤ L ∧ L ≤ 131072) (hk : ∀ k ∈ ks, (0 ≤ k ∧ k ≤ L) ∧ L - k ∈ ks')
    (he : ∀ s, 0 ≤ s → s ≤ 524288 → effW line' (backT last l) (last + L - s) = effW line l s) : (worstW line l ks span point).f0 ≤ (worstW line' (backT last l) ks' span' point').f0 := by
  refine worst_le hne hne' fun s hs => ?_
  obtain ⟨x, hx, k, hk1, rfl⟩ := mem_breaks.1 hs
  obtain ⟨hk2, hk3⟩ := hk k hk1
  have hx1 := hl x hx
  refine ⟨last + L - wrap64 (k + x.f0), mem_breaks.2 ⟨⟨last - x.f0, x.f1⟩, ?_, L - k, hk3, ?_⟩, ?_⟩
  · simp only [backT, List.mem_map, List.mem_reverse]
    exact ⟨x, hx, rfl⟩
  · simp only
    rw [w64 (x := k + x.f0) (by omega) (by omega), w64 (by omega) (by omega)]; omega
  · rw [he _ (by rw [w64 (by omega) (by omega)]; omega) (by rw [w64 (by omega) (by omega)]; omega)]
    exact Int.le_refl _
theorem back_back {l : List S35} {last : Int} : backT last (backT last l) = l := by
  simp only [backT, List.map_reverse, List.reverse_reverse, List.map_map]
  have : ∀ x ∈ l, ((fun x : S35 => (⟨last - x.f0, x.f1⟩ : S35)) ∘ fun x : S35 => (⟨last - x.f0, x.f1⟩ : S35)) x = id x := by
    intro x _
    cases x
    simp only [Function.comp, id, S35.mk.injEq, and_true]
    omega
  rw [List.map_congr_left this, List.map_id]
theorem moments_mirror {l : List S35} (h : errT l = 0) (hne : l ≠ []) {L x a b c d : Int} (hL : 0 ≤ L ∧ L ≤ 131072) (hx : 0 ≤ x ∧ x ≤ L) :
    (worstW (momentW 0 L x) l [0, x, L] a b).f0 = (worstW (momentW 0 L (L - x)) (backT (l.getLast hne).f0 l) [0, L - x, L] c d).f0 := by
  have hb := back_ok h hne
  obtain ⟨p1, p2, p3⟩ := (trainOk_iff l 0 true).1 (errT_zero h).2.2
  have hge := last_ge p1 hne
  have hlast := p2 _ (List.getLast_mem hne)
  have hbne : backT (l.getLast hne).f0 l ≠ [] := by simp [backT, hne]
  generalize (l.getLast hne).f0 = last at *
  have key : ∀ s, 0 ≤ s → s ≤ 524288 → effW (momentW 0 L (L - x)) (backT last l) (last + L - s) = effW (momentW 0 L x) l s := by
    intro s h0 h1
    rw [effW_moment (by omega) hL (by omega) (by omega) hb, effW_moment (by omega) hL hx (by omega) h, backT, ← effS_reverse l]
    refine effS_map fun y _ => ⟨rfl, ?_⟩
    simp only
    rw [show last + L - s - (last - y.f0) - 0 = L - (s - y.f0 - 0) by omega]
    exact momentI_mirror hx _
  have hmem : ∀ y ∈ backT last l, 0 ≤ y.f0 ∧ y.f0 ≤ last := by
    intro y hy
    simp only [backT, List.mem_map, List.mem_reverse] at hy
    obtain ⟨z, hz, rfl⟩ := hy
    have := p2 z hz
    have := hge z hz
    simp only
    omega
  refine Int.le_antisymm ?_ ?_
  · refine mirror_le (breaks_ne hne) (breaks_ne hbne) (fun y hy => ⟨(p2 y hy).1, hge y hy⟩) (by omega) hL ?_ key
    intro k hk
    simp only [List.mem_cons, List.not_mem_nil, or_false] at hk ⊢
    rcases hk with rfl | rfl | rfl <;> omega
  · have hbb : backT last (backT last l) = l := back_back
    have := mirror_le (line := momentW 0 L (L - x)) (line' := momentW 0 L x) (l := backT last l) (ks := [0, L - x, L]) (ks' := [0, x, L]) (span := c) (point := d) (span' := a) (point' := b) (last := last) (L := L) (breaks_ne hbne) (by rw [hbb]; exact breaks_ne hne) hmem (by omega) hL (by
      intro k hk
      simp only [List.mem_cons, List.not_mem_nil, or_false] at hk ⊢
      rcases hk with rfl | rfl | rfl <;> omega) (by
      intro s h0 h1
      rw [hbb]
      rw [effW_moment (by omega) hL hx (by omega) h, effW_moment (by omega) hL (by omega) (by omega) hb, backT, ← effS_reverse l]
      refine (effS_map (m := fun x => ⟨last - x.f0, x.f1⟩) fun y _ => ⟨rfl, ?_⟩).symm
      simp only
      rw [show s - (last - y.f0) - 0 = L - (last + L - s - y.f0 - 0) by omega]
      exact momentI_mirror hx _)
    rwa [hbb] at this
theorem ends_mirror {l : List S35} (h : errT l = 0) (hne : l ≠ []) {L a b c d : Int} (hL : 0 ≤ L ∧ L ≤ 131072) :
    (worstW (endW 0 L false) l [0, L] a b).f0 = (worstW (endW 0 L true) (backT (l.getLast hne).f0 l) [0, L] c d).f0 := by
  have hb := back_ok h hne
  obtain ⟨p1, p2, p3⟩ := (trainOk_iff l 0 true).1 (errT_zero h).2.2
  have hge := last_ge p1 hne
  have hlast := p2 _ (List.getLast_mem hne)
  have hbne : backT (l.getLast hne).f0 l ≠ [] := by simp [backT, hne]
  generalize (l.getLast hne).f0 = last at *
  have hmem : ∀ y ∈ backT last l, 0 ≤ y.f0 ∧ y.f0 ≤ last := by
    intro y hy
    simp only [backT, List.mem_map, List.mem_reverse] at hy
    obtain ⟨z, hz, rfl⟩ := hy
    have := p2 z hz
    have := hge z hz
    simp only
    omega
  refine Int.le_antisymm ?_ ?_
  · refine mirror_le (breaks_ne hne) (breaks_ne hbne) (fun y hy => ⟨(p2 y hy).1, hge y hy⟩) (by omega) hL ?_ ?_
    · intro k hk
      simp only [List.mem_cons, List.not_mem_nil, or_false] at hk ⊢
      rcases hk with rfl | rfl <;> omega
    · intro s h0 h1
      rw [effW_end (by omega) hL (by omega) hb, effW_end (by omega) hL (by omega) h, backT, ← effS_reverse l]
      refine effS_map fun y _ => ⟨rfl, ?_⟩
      simp only
      rw [show last + L - s - (last - y.f0) - 0 = L - (s - y.f0 - 0) by omega]
      exact endI_mirror _
  · have hbb : backT last (backT last l) = l := back_back
    have := mirror_le (line := endW 0 L true) (line' := endW 0 L false) (l := backT last l) (ks := [0, L]) (ks' := [0, L]) (span := c) (point := d) (span' := a) (point' := b) (last := last) (L := L) (breaks_ne hbne) (by rw [hbb]; exact breaks_ne hne) hmem (by omega) hL (by
      intro k hk
      simp only [List.mem_cons, List.not_mem_nil, or_false] at hk ⊢
      rcases hk with rfl | rfl <;> omega) (by
      intro s h0 h1
      rw [hbb]
      rw [effW_end (by omega) hL (by omega) h, effW_end (by omega) hL (by omega) hb, backT, ← effS_reverse l]
      refine (effS_map (m := fun x => ⟨last - x.f0, x.f1⟩) fun y _ => ⟨rfl, ?_⟩).symm
      simp only
      rw [show s - (last - y.f0) - 0 = L - (last + L - s - y.f0 - 0) by omega]
      exact (endI_mirror _))
    rwa [hbb] at this

theorem rd35_last {l : List S35} (hne : l ≠ []) : rd_T35 l ((l.length - 1 : Nat) : Int) = l.getLast hne := by
  have : 0 < l.length := List.length_pos_iff.2 hne
  rw [rd35_get l _ (by omega), List.getLast_eq_getElem]
/-- The end of the law: the train is turned. -/
theorem mir_fin {sp mo sh : List Int} {a b c x : Int} {t : List S35} (he : errS sp mo sh a b c t 0 = 0) (hx : inR x 0 (rd sp 0) = true) (hne : t ≠ []) {v2 v3 v4 v6 v7 v8 : Int} :
    Ev (fun k => goosenecklaw06_BridgeMirrors.l0 k t x (backT (t.getLast hne).f0 t) (t.getLast hne).f0 (-1) sp mo sh a b c (momentWorst sp t 0 (rd sp 0) x).f0 v2 v3 v4 (endWorst sp t 0 (rd sp 0) false 0).f0 v6 v7 v8) true := by
  obtain ⟨h1, h2, h3, h4⟩ := errS_zero he
  have g1 := errB_zero h1
  have gx := inR_iff.1 hx
  have hsp : rd sp 0 = sp[0] := rd_get sp 0 (by omega)
  have hL := spansOk_get g1.2.2.2.2.2.2.2 0 (by omega)
  have hb := back_ok h2 hne
  have he2 : errS sp mo sh a b c (backT (t.getLast hne).f0 t) 0 = 0 := by
    unfold errS errBT
    rw [if_neg (show ¬ (if errB sp mo sh a b c ≠ 0 then errB sp mo sh a b c else errT (backT (t.getLast hne).f0 t)) ≠ 0 by rw [if_neg (fun g => g h1)]; exact fun g => g hb), if_neg (by omega)]
  have hw : wrap64 (rd sp 0 - x) = rd sp 0 - x := by rw [hsp] at gx ⊢; exact w64 (by omega) (by omega)
  have hx2 : inR (rd sp 0 - x) 0 (rd sp 0) = true := inR_iff.2 (by omega)
  have e1 := WorstMoment_eq sp mo sh a b c (backT (t.getLast hne).f0 t) 0 (rd sp 0 - x)
  have e2 := WorstEnd_eq sp mo sh a b c (backT (t.getLast hne).f0 t) 0 true
  rw [if_pos he2, if_pos hx2] at e1
  rw [if_pos he2, if_pos rfl] at e2
  have q1 : (momentWorst sp t 0 (rd sp 0) x).f0 = (momentWorst sp (backT (t.getLast hne).f0 t) (0 : Int).toNat (rd sp 0) (rd sp 0 - x)).f0 := by
    simp only [momentWorst, Int.toNat_zero, startW_zero, Int.zero_add]
    rw [hsp] at gx ⊢
    rw [w64 (x := x) (by omega) (by omega), w64 (x := sp[0]) (by omega) (by omega), w64 (x := sp[0] - x) (by omega) (by omega)]
    exact moments_mirror h2 hne (by omega) (by omega)
  have q2 : (endWorst sp t 0 (rd sp 0) false 0).f0 = (endWorst sp (backT (t.getLast hne).f0 t) (0 : Int).toNat (rd sp 0) true (rd sp 0)).f0 := by
    simp only [endWorst, Int.toNat_zero, startW_zero, Int.zero_add]
    rw [hsp]
    rw [w64 (x := sp[0]) (by omega) (by omega)]
    exact ends_mirror h2 hne (by omega)
  refine Ev.step (f := fun k => (goosenecklaw06_known.f k).bind fun t136 => some t136) (fun k => ?_) (Ev.bind known_ev (Ev.now _))
  rw [goosenecklaw06_BridgeMirrors.l0, if_neg (by omega), if_pos (by omega), hw, e1, e2]
  simp only [Option.bind_some, effT, if_true]
  rw [if_pos q1, if_pos q2]
theorem mir_loop {sp mo sh : List Int} {a b c x : Int} {t : List S35} (he : errS sp mo sh a b c t 0 = 0) (hx : inR x 0 (rd sp 0) = true) (hne : t ≠ []) {v2 v3 v4 v6 v7 v8 : Int} : ∀ i : Nat, i ≤ t.length →
    Ev (fun k => goosenecklaw06_BridgeMirrors.l0 k t x ((t.drop i).reverse.map fun y => ⟨(t.getLast hne).f0 - y.f0, y.f1⟩) (t.getLast hne).f0 ((i : Int) - 1) sp mo sh a b c (momentWorst sp t 0 (rd sp 0) x).f0 v2 v3 v4 (endWorst sp t 0 (rd sp 0) false 0).f0 v6 v7 v8) true
  | 0, _ => by
    have := mir_fin he hx hne (v2 := v2) (v3 := v3) (v4 := v4) (v6 := v6) (v7 := v7) (v8 := v8)
    simpa [backT] using this
  | i + 1, hi => by
    have ih := mir_loop he hx hne (v2 := v2) (v3 := v3) (v4 := v4) (v6 := v6) (v7 := v7) (v8 := v8) i (by omega)
    have hT := (errS_zero he).2.1
    have hlen := errT_zero hT
    have hf := (okForces hT _ (List.getElem_mem (show i < t.length by omega))).1
    have hg := (okForces hT _ (List.getLast_mem hne)).1
    have hd : (t.drop i).reverse = (t.drop (i + 1)).reverse ++ [t[i]] := by rw [List.drop_eq_getElem_cons (by omega), List.reverse_cons]
    rw [hd, List.map_append, List.map_cons, List.map_nil] at ih
    refine Ev.step (fun k => ?_) ih
    rw [goosenecklaw06_BridgeMirrors.l0, if_pos (by omega), if_pos (by omega), if_pos (by omega), if_pos (by simp; omega)]
    rw [show (((i + 1 : Nat) : Int) - 1) = (i : Int) by omega, rd35_get t i (by omega), w64 (x := (i : Int) - 1) (by omega) (by omega), w64 (x := (t.getLast hne).f0 - t[i].f0) (by omega) (by omega)]
theorem great_eq (sp mo sh : List Int) (a b c : Int) (t : List S35) : ∃ g, goosenecklaw06_great.f sp mo sh a b c t = some g := by
  unfold goosenecklaw06_great.f
  split
  · exact ⟨_, rfl⟩
  · split
    · exact ⟨_, rfl⟩
    · split
      · exact ⟨_, rfl⟩
      · exact ⟨_, rfl⟩
theorem known_end_ev : Ev (fun k => (goosenecklaw06_known.f k).bind fun t => some t) true := Ev.bind known_ev (Ev.now _)
theorem BridgeMirrors_pure : BridgeMirrors_Pure := by
  intro bb t x _ _ wx
  obtain ⟨sp, mo, sh, a, b, c⟩ := bb
  refine Ev.rounds (g := fun k => goosenecklaw06_BridgeMirrors.f k sp mo sh a b c t x) ?_
  unfold goosenecklaw06_BridgeMirrors.f
  obtain ⟨g, hg⟩ := great_eq sp mo sh a b c t
  simp only [hg, Option.bind_some]
  have hj0 : Ev (fun k => goosenecklaw06_BridgeMirrors.j0 k t x true sp mo sh a b c) true := by
    refine Ev.step (fun k => ?_) known_end_ev
    rw [goosenecklaw06_BridgeMirrors.j0, if_pos rfl]
  by_cases h1 : g = true
  · simp only [if_pos h1]; exact hj0
  · simp only [if_neg h1]
    by_cases h2 : (sp.length : Int) = 0
    · simp only [if_pos h2]; exact hj0
    · simp only [if_neg h2]
      by_cases h3 : t = []
      · subst h3; simpa using hj0
      · have h4 : ((t.length : Int) == 0) = false := by
          have := List.length_pos_iff.2 h3
          simp; omega
        rw [h4]
        have e1 := WorstMoment_eq sp mo sh a b c t 0 x
        have e2 := WorstEnd_eq sp mo sh a b c t 0 false
        have hj1 : ∀ v1 v2 v3 v4 v5 v6 v7 v8, Ev (fun k => goosenecklaw06_BridgeMirrors.j1 k t x true sp mo sh a b c v1 v2 v3 v4 v5 v6 v7 v8) true := by
          intro v1 v2 v3 v4 v5 v6 v7 v8
          refine Ev.step (fun k => ?_) known_end_ev
          rw [goosenecklaw06_BridgeMirrors.j1, if_pos rfl]
        have hs : ∀ k, goosenecklaw06_BridgeMirrors.j0 (k + 1) t x false sp mo sh a b c = ((bridge_WorstMoment.f sp mo sh a b c t 0 x).bind fun bt104 => ((bridge_WorstEnd.f sp mo sh a b c t 0 false).bind fun bt110 => (if bt104.2.2.2.2 = 0 then (goosenecklaw06_BridgeMirrors.j1 k t x (bt110.2.2.2.2 != 0) sp mo sh a b c bt104.1 bt104.2.1 bt104.2.2.1 bt104.2.2.2.1 bt110.1 bt110.2.1 bt110.2.2.1 bt110.2.2.2.1) else (goosenecklaw06_BridgeMirrors.j1 k t x true sp mo sh a b c bt104.1 bt104.2.1 bt104.2.2.1 bt104.2.2.2.1 bt110.1 bt110.2.1 bt110.2.2.1 bt110.2.2.2.1)))) := by
          intro k
          rw [goosenecklaw06_BridgeMirrors.j0, if_neg (by decide)]
        refine Ev.step hs ?_
        by_cases he : errS sp mo sh a b c t 0 = 0
        · rw [if_pos he] at e1 e2
          by_cases hx : inR x 0 (rd sp 0) = true
          · rw [if_pos hx] at e1
            rw [e1, e2]
            simp only [Option.bind_some, effT, if_true]
            have hlen := errT_zero (errS_zero he).2.1
            have hl := mir_loop he hx h3 (v2 := (momentWorst sp t 0 (rd sp 0) x).f1) (v3 := (momentWorst sp t 0 (rd sp 0) x).f2) (v4 := (momentWorst sp t 0 (rd sp 0) x).f3) (v6 := (endWorst sp t 0 (rd sp 0) false 0).f1) (v7 := (endWorst sp t 0 (rd sp 0) false 0).f2) (v8 := (endWorst sp t 0 (rd sp 0) false 0).f3) t.length (Nat.le_refl _)
            rw [List.drop_length] at hl
            refine Ev.step (fun k => ?_) hl
            have hw : wrap64 ((t.length : Int) - 1) = ((t.length - 1 : Nat) : Int) := by rw [w64 (by omega) (by omega)]; omega
            rw [goosenecklaw06_BridgeMirrors.j1, if_neg (by decide), hw, if_pos (by omega), if_pos (by omega), rd35_last h3]
            rw [show ((t.length - 1 : Nat) : Int) = (t.length : Int) - 1 by omega]
            rfl
          · rw [if_neg hx] at e1
            rw [e1, e2]
            simp only [Option.bind_some, effT, if_neg (show ¬ (3 : Int) = 0 by decide)]
            exact hj1 _ _ _ _ _ _ _ _
        · rw [if_neg he] at e1 e2
          rw [e1, e2]
          simp only [Option.bind_some, effT, if_neg he]
          exact hj1 _ _ _ _ _ _ _ _
end Go.Proofs.Ytiklpefckadgdaa.P
namespace Go.Proofs.Ytiklpefckadgdaa.bridgeMirrors
open Go.ChangeShapes Go.WideShapes Go.ChangeAt Go.RowKit Go.Proofs.Ytiklpefckadgdaa.P
open Go.Proofs.YtiklpefckadgdaaW.PrintWords Go.Proofs.YtiklpefckadgdaaW.PrintLast Go.Proofs.YtiklpefckadgdaaW.PrintMore
open Go.ChangeMaps (open_string shut_string)
set_option linter.unusedVariables false
theorem own : ownKnob Try.prog.godebug = none := by kernel_rfl
theorem laidOut : laidOutB Try.prog = true := by kernel_rfl
set_option maxRecDepth 100000 in
theorem lifted (os : Os) (started : os.Started) (H : Type) (enc : TypeId × Value → H) :
    ReturnsInHanded {} Try.checked os 3 .any (Rows.bridgeMirrorsSpec.pre6 enc Try.prog Try.f3 Rows.bridgeMirrorsRow.domain false) (Rows.bridgeMirrorsSpec.post enc Try.prog Try.f3 false true false false) := by
  refine returnsInHanded_of_change_sized (C := Try.checked) own started (by kernel_rfl) Try.func3
    (ChangeSpec.witness6 (enc := enc) (C := Try.checked) false ⟨#[], #[.agg #[.slice none 0 0, .slice none 0 0, .slice none 0 0, .int .i64 0, .int .i64 0, .int .i64 0], .slice none 0 0, .int .i64 0], []⟩ 8 (by kernel_rfl) (by kernel_rfl) (by kernel_rfl) (by kernel_rfl)) ?_
  intro W base args ds gs before hval0 hW hcnd hsz0 _
  have hval : ∀ (j : Nat) t v, Try.f3.params[j]? = some t → args[j]? = some v → Value.okWide Try.prog W .any base t v := hval0
  have hW' := hW
  obtain ⟨p, q, hA0, hV, rfl, hfz, hnd⟩ := hW
  have hA : DataW.TrodAll enc Try.prog W 0 (fun _ => true) true Try.f3.params.toList args.toList ds p := hA0
  rw [Try.params3] at hA hval
  obtain ⟨v0, vs0, d0, ds0, p0, q0, hargs, rfl, rfl, h0, r0⟩ := trodAll_cons hA
  obtain ⟨v1, vs1, d1, ds1, p1, q1, rfl, rfl, rfl, h1, r1⟩ := trodAll_cons r0
  obtain ⟨v2, vs2, d2, ds2, p2, q2, rfl, rfl, rfl, h2, r2⟩ := trodAll_cons r1
  obtain ⟨rfl, rfl, rfl⟩ := trodAll_nil r2
  obtain rfl : args = #[v0, v1, v2] := by cases args; simp_all
  obtain ⟨rfl, rfl⟩ := trodVars_none hV
  have k0 := h0
  have lt0 : ∀ x ∈ p0, x.block < W.heap.size := by obtain ⟨m, hm⟩ := k0; exact DataW.trod_lt m _ _ _ hm
  obtain ⟨cs0, rfl, hz0⟩ := okWide_struct Try.underlying24 (hval 0 24 v0 rfl rfl)
  obtain ⟨f0, hf0⟩ := h0
  obtain ⟨x0, hK0, w0⟩ := opens24 H enc W _ _ _ _ _ _ hf0
  obtain ⟨A0_0, c0_0, A0_1, c0_1, A0_2, c0_2, e0, hc0_0, hr0_0, hc0_1, hr0_1, hc0_2, hr0_2⟩ := k24_open hK0
  obtain rfl : cs0 = #[.slice A0_0 x0.f0.length c0_0, .slice A0_1 x0.f1.length c0_1, .slice A0_2 x0.f2.length c0_2, .int .i64 x0.f3, .int .i64 x0.f4, .int .i64 x0.f5] := by apply Array.toList_inj.1; simpa [Value.cells] using e0
  have k1 := h1
  have lt1 : ∀ x ∈ p1, x.block < W.heap.size := by obtain ⟨m, hm⟩ := k1; exact DataW.trod_lt m _ _ _ hm
  obtain ⟨a1, len1, cap1, rfl⟩ := okWide_slice Try.underlying25 (hval 1 25 v1 rfl rfl)
  obtain ⟨f1, hf1⟩ := h1
  obtain ⟨l1, ⟨A1, c1, e1, hc1, hr1⟩, w1⟩ := (Opens.slice Try.underlying25 (by kernel_rfl) opens35) H enc W _ _ _ _ _ _ hf1
  simp [Value.cells] at e1
  obtain ⟨rfl, rfl, rfl⟩ := e1
  obtain ⟨a2, rfl, rfl, rfl, w2⟩ := open_int Try.underlying2 (hval 2 2 v2 rfl rfl) h2
  clear hA0 hval0 hsz0
  obtain ⟨k, hk⟩ := BridgeMirrors_pure x0 l1 a2 w0 w1 w2
  refine (goosenecklaw06_BridgeMirrors.calls k _ _ x0.f0 _ _ x0.f1 _ _ x0.f2 x0.f3 x0.f4 x0.f5 _ _ l1 a2 true W hr0_0 hc0_0 hr0_1 hc0_1 hr0_2 hc0_2 hr1 hc1 ⟨rfl⟩ hk).mono fun e W' ⟨he, bel⟩ => ?_
  subst he
  exact ⟨_, rfl, _, _, _, [], _, [], hW', trodAll_mk1 (shut_bool Try.underlying4 _), (trodAll_cons_mk (Below.trod laidOut (by kernel_rfl) (of_decide_eq_true (by kernel_rfl)) k0 bel lt0) (trodAll_cons_mk (Below.trod laidOut (by kernel_rfl) (of_decide_eq_true (by kernel_rfl)) k1 bel lt1) (trodAll_cons_mk (shut_int Try.underlying2 w2) trodAll_mk0))), rfl, bel.frame _, fun h => by cases h⟩
theorem over : Rows.bridgeMirrorsRow.holds Try.pinned (OpenSpec.ofChange Rows.bridgeMirrorsSpec) :=
  OpenClaim.holds_of_wide 3 Try.f3 rfl rfl rfl rfl rfl rfl rfl ⟨rfl, rfl, rfl, rfl, rfl⟩ rfl rfl rfl rfl rfl (by kernel_rfl) Try.func3 (by kernel_rfl)
    (of_decide_eq_true (by kernel_rfl)) (by unfold Func.isWrapper; first | (rw [if_pos (by decide +kernel)]; kernel_rfl) | (rw [if_neg (by decide +kernel)]; exact ⟨rfl, rfl⟩))
    (fun os started H enc _ => lifted os started H enc)
theorem proved : Rows.BridgeMirrorsSaid := over
#print axioms proved
end Go.Proofs.Ytiklpefckadgdaa.bridgeMirrors
namespace Go.Proofs.Ytiklpefckadgdaa
/-- The row, under a short name, for the claim. -/
theorem bridgeMirrors_holds : Rows.BridgeMirrorsSaid := bridgeMirrors.proved
end Go.Proofs.Ytiklpefckadgdaa
