/- The law PlaneAlong answers true at every input and leaves its arguments as they were; no condition. Part 5 of 5: the row. -/
import Derived.Test.YtegdcnjjelgpjaaCPlaneAlong3
import Derived.Test.YtegdcnjjelgpjaaCPlaneAlong2
import Derived.Test.YtegdcnjjelgpjaaRows
import Derived.WalkKit
import Derived.ProofKit
import Derived.OpenShut
import Derived.ShutString
import Derived.ChangeOld
import Derived.Below
import Derived.SizedLaws
import Derived.Carry
import Derived.Lib.SmallJoins
namespace Go.Proofs.Ytegdcnjjelgpjaa.P
open Go.RowKit Go.Proofs.YtegdcnjjelgpjaaW.PrintWords Go.Proofs.YtegdcnjjelgpjaaW.PrintLast Go.Proofs.YtegdcnjjelgpjaaW.PrintMore
theorem errP_of {l : List S23} (h : okP l = true) (hl : l.length ≤ 256) : errP l = 0 := by
  unfold errP; rw [if_neg (by omega), if_pos h]
theorem okP_cons {p : S23} {l : List S23} : okP (p :: l) = true ↔ isP p.f0 p.f1 = true ∧ okP l = true := by simp [okP]
theorem far_dx {p q : S23} (hp : isP p.f0 p.f1 = true) (hq : isP q.f0 q.f1 = true) : (-farI p q ≤ q.f0 - p.f0 ∧ q.f0 - p.f0 ≤ farI p q) ∧ (-farI p q ≤ q.f1 - p.f1 ∧ q.f1 - p.f1 ≤ farI p q) := by
  obtain ⟨h, _⟩ := farI_valid hp hq
  have sq : ∀ x : Int, 0 ≤ x * x := fun x => by rcases Int.le_total 0 x with g | g; exact Int.mul_nonneg g g; exact Int.mul_nonneg_of_nonpos_of_nonpos g g
  have a := sq (q.f0 - p.f0)
  have b := sq (q.f1 - p.f1)
  have n1 : (-(q.f0 - p.f0)) * (-(q.f0 - p.f0)) = (q.f0 - p.f0) * (q.f0 - p.f0) := Int.neg_mul_neg _ _
  have n2 : (-(q.f1 - p.f1)) * (-(q.f1 - p.f1)) = (q.f1 - p.f1) * (q.f1 - p.f1) := Int.neg_mul_neg _ _
  have c1 := root_ge_of h (x := q.f0 - p.f0) (by omega)
  have c2 := root_ge_of h (x := -(q.f0 - p.f0)) (by omega)
  have c3 := root_ge_of h (x := q.f1 - p.f1) (by omega)
  have c4 := root_ge_of h (x := -(q.f1 - p.f1)) (by omega)
  omega
theorem far_zero {p q : S23} (hp : isP p.f0 p.f1 = true) (hq : isP q.f0 q.f1 = true) (h : farI p q = 0) : q = p := by
  have := far_dx hp hq
  cases p; cases q
  simp only [S23.mk.injEq]
  simp only at *
  omega
theorem nearI_exact (x d : Int) (hd : 1 ≤ d) : nearI (x * d) d = x := by
  have := nearI_rest (x * d) d hd
  have e : 2 * (nearI (x * d) d * d - x * d) = 2 * ((nearI (x * d) d - x) * d) := by rw [Int.sub_mul]
  rw [e] at this
  generalize hz : nearI (x * d) d - x = z at *
  have h1 : z < 1 := by
    rcases Int.lt_or_le z 1 with g | g
    · exact g
    · have := Int.mul_le_mul_of_nonneg_right g (show 0 ≤ d by omega); omega
  have h2 : -1 < z := by
    rcases Int.lt_or_le (-1) z with g | g
    · exact g
    · have := Int.mul_le_mul_of_nonneg_right g (show 0 ≤ d by omega); omega
  have : z = 0 := by omega
  omega
theorem nearI_zero (d : Int) (hd : 1 ≤ d) : nearI 0 d = 0 := by have := nearI_exact 0 d hd; simpa using this
theorem nearI_step (x s d : Int) (hd : 1 ≤ d) (hx0 : -d ≤ x) (hx1 : x ≤ d) : -2 ≤ nearI (x * (s + 1)) d - nearI (x * s) d ∧ nearI (x * (s + 1)) d - nearI (x * s) d ≤ 2 := by
  have a := nearI_rest (x * (s + 1)) d hd
  have b := nearI_rest (x * s) d hd
  rw [Int.mul_add, Int.mul_one] at *
  generalize nearI (x * s + x) d = u at *
  generalize nearI (x * s) d = v at *
  have e : (u - v) * d = u * d - v * d := Int.sub_mul _ _ _
  generalize u - v = z at *
  constructor
  · rcases Int.lt_or_le z (-2) with g | g
    · have := Int.mul_le_mul_of_nonneg_right (show z ≤ -3 by omega) (show 0 ≤ d by omega); omega
    · exact g
  · rcases Int.lt_or_le 2 z with g | g
    · have := Int.mul_le_mul_of_nonneg_right (show 3 ≤ z by omega) (show 0 ≤ d by omega); omega
    · exact g
theorem along_zero (a : S23) : ∀ (l : List S23) (i : Nat), okP (a :: l) = true → (alongL a (a :: l) 0 i).1 = a.f0 ∧ (alongL a (a :: l) 0 i).2.1 = a.f1
  | [], i, _ => ⟨rfl, rfl⟩
  | q :: r, i, h => by
    obtain ⟨h1, h2⟩ := okP_cons.1 h
    obtain ⟨h3, h4⟩ := okP_cons.1 h2
    have fd := (farI_valid h1 h3).2.2.2
    rw [alongL]
    by_cases hc : 0 < farI a q ∧ 0 ≤ farI a q
    · rw [if_pos hc]; simp only [Int.mul_zero, nearI_zero _ (show 1 ≤ farI a q by omega), Int.add_zero, and_self]
    · rw [if_neg hc]
      have h0 : farI a q = 0 := by omega
      have := far_zero h1 h3 h0
      subst this
      rw [h0]
      exact along_zero q r (i + 1) h2
theorem long_zero (a : S23) : ∀ (l : List S23) (h : okP (a :: l) = true), longL (a :: l) = 0 → (a :: l).getLast (by simp) = a
  | [], _, _ => rfl
  | q :: r, h, h0 => by
    obtain ⟨h1, h2⟩ := okP_cons.1 h
    obtain ⟨h3, h4⟩ := okP_cons.1 h2
    have fd := (farI_valid h1 h3).2.2.2
    have lb := longL_bd (q :: r) h2
    rw [longL] at h0
    have := far_zero h1 h3 (by omega)
    subst this
    rw [List.getLast_cons (by simp)]
    exact long_zero q r h2 (by omega)
theorem along_end (a : S23) : ∀ (l : List S23) (p : S23) (i : Nat), okP (p :: l) = true → (0 < longL (p :: l) ∨ p = a) → (alongL a (p :: l) (longL (p :: l)) i).1 = ((p :: l).getLast (by simp)).f0 ∧ (alongL a (p :: l) (longL (p :: l)) i).2.1 = ((p :: l).getLast (by simp)).f1
  | [], p, i, _, h0 => by
    rcases h0 with h0 | rfl
    · simp [longL] at h0
    · exact ⟨rfl, rfl⟩
  | q :: r, p, i, h, h0 => by
    obtain ⟨h1, h2⟩ := okP_cons.1 h
    obtain ⟨h3, h4⟩ := okP_cons.1 h2
    have fd := (farI_valid h1 h3).2.2.2
    have lb := longL_bd (q :: r) h2
    have hl : longL (p :: q :: r) = farI p q + longL (q :: r) := by rw [longL]
    rw [hl, List.getLast_cons (by simp), alongL]
    rw [hl] at h0
    by_cases hc : 0 < farI p q ∧ farI p q + longL (q :: r) ≤ farI p q
    · rw [if_pos hc]
      have hz : longL (q :: r) = 0 := by omega
      rw [long_zero q r h2 hz, hz]
      simp only [Int.add_zero, nearI_exact _ _ (show 1 ≤ farI p q by omega)]
      constructor <;> omega
    · rw [if_neg hc]
      have e : farI p q + longL (q :: r) - farI p q = longL (q :: r) := by omega
      rw [e]
      refine along_end a r q (i + 1) h2 ?_
      by_cases hz : farI p q = 0
      · have := far_zero h1 h3 hz
        subst this
        rcases h0 with h0 | h0
        · left; omega
        · right; exact h0
      · left; omega
theorem along_hit (a : S23) : ∀ (l : List S23) (s : Int) (i : Nat), okP l = true → 0 ≤ s → s ≤ longL l → 0 < longL l → (i : Int) ≤ (alongL a l s i).2.2 ∧ (alongL a l s i).2.2 < i + l.length
  | [], s, i, _, _, _, h0 => by simp [longL] at h0
  | [p], s, i, _, _, _, h0 => by simp [longL] at h0
  | p :: q :: r, s, i, h, hs, hs1, h0 => by
    obtain ⟨h1, h2⟩ := okP_cons.1 h
    obtain ⟨h3, h4⟩ := okP_cons.1 h2
    have fd := (farI_valid h1 h3).2.2.2
    have lb := longL_bd (q :: r) h2
    have hl : longL (p :: q :: r) = farI p q + longL (q :: r) := by rw [longL]
    rw [hl] at hs1 h0
    rw [alongL]
    by_cases hc : 0 < farI p q ∧ s ≤ farI p q
    · rw [if_pos hc]; simp only [List.length_cons]; omega
    · rw [if_neg hc]
      have := along_hit a (q :: r) (s - farI p q) (i + 1) h2 (by omega) (by omega) (by omega)
      simp only [List.length_cons] at *
      omega
theorem along_next (a : S23) : ∀ (l : List S23) (s : Int) (i : Nat), okP l = true → 0 ≤ s → s + 1 ≤ longL l →
    (alongL a l s i).2.2 ≤ (alongL a l (s + 1) i).2.2 ∧ ((alongL a l s i).2.2 = (alongL a l (s + 1) i).2.2 → (-2 ≤ (alongL a l (s + 1) i).1 - (alongL a l s i).1 ∧ (alongL a l (s + 1) i).1 - (alongL a l s i).1 ≤ 2) ∧ (-2 ≤ (alongL a l (s + 1) i).2.1 - (alongL a l s i).2.1 ∧ (alongL a l (s + 1) i).2.1 - (alongL a l s i).2.1 ≤ 2))
  | [], s, i, _, _, h0 => by simp [longL] at h0; omega
  | [p], s, i, _, _, h0 => by simp [longL] at h0; omega
  | p :: q :: r, s, i, h, hs, hs1 => by
    obtain ⟨h1, h2⟩ := okP_cons.1 h
    obtain ⟨h3, h4⟩ := okP_cons.1 h2
    have fd := (farI_valid h1 h3).2.2.2
    have lb := longL_bd (q :: r) h2
    have hl : longL (p :: q :: r) = farI p q + longL (q :: r) := by rw [longL]
    have dx := far_dx h1 h3
    rw [hl] at hs1
    rw [alongL, alongL]
    by_cases hc : 0 < farI p q ∧ s + 1 ≤ farI p q
    · rw [if_pos hc, if_pos ⟨hc.1, by omega⟩]
      have n1 := nearI_step (q.f0 - p.f0) s (farI p q) (by omega) (by omega) (by omega)
      have n2 := nearI_step (q.f1 - p.f1) s (farI p q) (by omega) (by omega) (by omega)
      refine ⟨Int.le_refl _, fun _ => ?_⟩
      simp only
      omega
    · rw [if_neg hc]
      by_cases hd : 0 < farI p q ∧ s ≤ farI p q
      · rw [if_pos hd]
        have hh := along_hit a (q :: r) (s + 1 - farI p q) (i + 1) h2 (by omega) (by omega) (by omega)
        refine ⟨by simp only; omega, fun he => ?_⟩
        simp only at he
        omega
      · rw [if_neg hd]
        have e : s + 1 - farI p q = (s - farI p q) + 1 := by omega
        rw [e]
        exact along_next a (q :: r) (s - farI p q) (i + 1) h2 (by omega) (by omega)
theorem mx4 (a b c d : Int) (h1 : a ≤ 2) (h2 : b ≤ 2) (h3 : c ≤ 2) (h4 : d ≤ 2) : mx (mx (mx a b) c) d ≤ 2 := by
  simp only [mx]; omega
theorem along_j1 (a1 : Int) (l : List S23) (ha : 0 ≤ a1 ∧ a1 ≤ 65535) (hok : okP l = true) (hl : l.length ≤ 12) (hl0 : 0 < l.length) :
    Ev (fun k => goosenecklaw01_PlaneAlong.j1 k a1 l (longL l) false) true := by
  have lb := longL_bd l hok
  have hlen : lenS l = (longL l, 0) := by
    have : errP l = 0 := errP_of hok (by omega)
    unfold lenS; rw [if_pos this, if_neg (by omega)]
  by_cases h0 : longL l = 0
  · refine Ev.step (f := fun k => (goosenecklaw01_works.f k).bind fun t => some t) (fun k => ?_) (Ev.bind works_ev (Ev.now _))
    rw [goosenecklaw01_PlaneAlong.j1, if_neg (by simp), if_pos h0]
  · have hm0 : 0 ≤ Int.tmod a1 (longL l) := Int.tmod_nonneg _ ha.1
    have hm1 : Int.tmod a1 (longL l) < longL l := Int.tmod_lt_of_pos _ (by omega)
    have hn := along_next (l.getD 0 z23) l (Int.tmod a1 (longL l)) 0 hok hm0 (by omega)
    have hh := along_hit (l.getD 0 z23) l (Int.tmod a1 (longL l) + 1) 0 hok (by omega) (by omega) (by omega)
    have e1 := (Along_ev l (Int.tmod a1 (longL l))).1
    have e2 := (Along_ev l (Int.tmod a1 (longL l) + 1)).1
    have s1 : ∀ s, 0 ≤ s → s ≤ longL l → alS l s = ((alongL (l.getD 0 z23) l s 0).1, (alongL (l.getD 0 z23) l s 0).2.1, (alongL (l.getD 0 z23) l s 0).2.2, 0) := by
      intro s g0 g1
      unfold alS; rw [hlen, if_pos rfl, if_pos (inR_iff.2 ⟨g0, g1⟩)]
    rw [s1 _ hm0 (by omega)] at e1
    rw [s1 _ (by omega) (by omega)] at e2
    generalize alongL (l.getD 0 z23) l (Int.tmod a1 (longL l)) 0 = c at *
    generalize alongL (l.getD 0 z23) l (Int.tmod a1 (longL l) + 1) 0 = d at *
    have hw : wrap64 a1 = a1 := w64 (by omega) (by omega)
    have hw1 : wrap64 (Int.tmod a1 (longL l) + 1) = Int.tmod a1 (longL l) + 1 := w64 (by omega) (by omega)
    have hs : ∀ k, goosenecklaw01_PlaneAlong.j1 (k + 1) a1 l (longL l) false = ((plane_Along.f k l (Int.tmod a1 (longL l))).bind fun bt127 => ((plane_Along.f k l (Int.tmod a1 (longL l) + 1)).bind fun bt132 => (if bt127.2.2.2 = 0 then (if bt132.2.2.2 = 0 then (if bt127.2.2.1 > bt132.2.2.1 then (some false) else (if bt132.2.2.1 ≥ (l.length : Int) then (some false) else (if bt127.2.2.1 = bt132.2.2.1 then (if (mx (mx (mx (wrap64 (bt127.1 - bt132.1)) (wrap64 (bt132.1 - bt127.1))) (wrap64 (bt127.2.1 - bt132.2.1))) (wrap64 (bt132.2.1 - bt127.2.1))) ≤ 2 then ((goosenecklaw01_works.f k).bind fun t137 => (some t137)) else (some false)) else ((goosenecklaw01_works.f k).bind fun t138 => (some t138))))) else (some false)) else (some false)))) := by
      intro k
      rw [goosenecklaw01_PlaneAlong.j1, if_neg (by simp), if_neg h0, hw, hw1]
    refine Ev.step hs (Ev.bind e1 (Ev.bind e2 ?_))
    simp only [if_true]
    simp only [if_neg (show ¬ c.2.2 > d.2.2 by omega), if_neg (show ¬ d.2.2 ≥ (l.length : Int) by omega)]
    by_cases he : c.2.2 = d.2.2
    · obtain ⟨n1, n2⟩ := hn.2 he
      simp only [if_pos he]
      have hm := mx4 (wrap64 (c.1 - d.1)) (wrap64 (d.1 - c.1)) (wrap64 (c.2.1 - d.2.1)) (wrap64 (d.2.1 - c.2.1)) (by rw [w64 (by omega) (by omega)]; omega) (by rw [w64 (by omega) (by omega)]; omega) (by rw [w64 (by omega) (by omega)]; omega) (by rw [w64 (by omega) (by omega)]; omega)
      simp only [if_pos hm]
      exact Ev.bind works_ev (Ev.now _)
    · simp only [if_neg he]
      exact Ev.bind works_ev (Ev.now _)
theorem along_fin (a1 a2 : Int) (l : List S23) (ha : 0 ≤ a1 ∧ a1 ≤ 65535) (hok : okP l = true) (hl : l.length ≤ 12) :
    Ev (fun k => goosenecklaw01_PlaneAlong.l0 k a1 a2 l (l.length : Int)) true := by
  have lb := longL_bd l hok
  have h1 := (Length_ev l).1
  have hE : errP l = 0 := errP_of hok (by omega)
  cases l with
  | nil =>
    have hlen : lenS [] = (0, 5) := by unfold lenS; rw [if_pos hE]; rfl
    rw [hlen] at h1
    refine Ev.step (f := fun k => (plane_Length.f k []).bind fun bt106 => if bt106.2 = 5 then ((goosenecklaw01_works.f k).bind fun t108 => (some t108)) else (some false)) (fun k => ?_) (Ev.bind h1 (Ev.congr (f := fun k => (goosenecklaw01_works.f k).bind fun t108 => (some t108)) (fun k => by rw [if_pos rfl]) (Ev.bind works_ev (Ev.now _))))
    rw [goosenecklaw01_PlaneAlong.l0, if_neg (by simp)]
    simp
  | cons p r =>
    have hlen : lenS (p :: r) = (longL (p :: r), 0) := by unfold lenS; rw [if_pos hE, if_neg (by simp)]
    rw [hlen] at h1
    have hb : 0 ≤ longL (p :: r) ∧ longL (p :: r) ≤ 805306368 := by omega
    have s1 : ∀ s, 0 ≤ s → s ≤ longL (p :: r) → alS (p :: r) s = ((alongL p (p :: r) s 0).1, (alongL p (p :: r) s 0).2.1, (alongL p (p :: r) s 0).2.2, 0) := by
      intro s g0 g1
      unfold alS; rw [hlen, if_pos rfl, if_pos (inR_iff.2 ⟨g0, g1⟩)]; rfl
    have s2 : alS (p :: r) (longL (p :: r) + 1) = (0, 0, 0, 3) := by
      unfold alS; rw [hlen, if_pos rfl, if_neg (by rw [inR_iff]; omega)]
    have e0 := (Along_ev (p :: r) 0).1
    have en := (Along_ev (p :: r) (longL (p :: r))).1
    have ex := (Along_ev (p :: r) (longL (p :: r) + 1)).1
    rw [s1 0 (by omega) hb.1] at e0
    rw [s1 _ hb.1 (by omega)] at en
    rw [s2] at ex
    have z0 := along_zero p r 0 hok
    have zn := along_end p r p 0 hok (Or.inr rfl)
    have hj := along_j1 a1 (p :: r) ha hok hl (by simp)
    have hr0 : rd_T23 (p :: r) 0 = p := rfl
    have hw1 : wrap64 (((p :: r).length : Int) - 1) = ((r.length : Nat) : Int) := by rw [List.length_cons]; simp only [List.length_cons] at hl; rw [w64 (by omega) (by omega)]; omega
    have hr1 : rd_T23 (p :: r) ((r.length : Nat) : Int) = (p :: r).getLast (by simp) := by
      rw [rd23_nat (p :: r) r.length (by simp), List.getLast_eq_getElem]; rfl
    have hw2 : wrap64 (longL (p :: r) + 1) = longL (p :: r) + 1 := w64 (by omega) (by omega)
    generalize longL (p :: r) = n at *
    generalize alongL p (p :: r) 0 0 = c at *
    generalize alongL p (p :: r) n 0 = d at *
    refine Ev.step (f := fun k => (plane_Length.f k (p :: r)).bind fun bt106 => ((plane_Along.f k (p :: r) 0).bind fun bt109 => ((plane_Along.f k (p :: r) bt106.1).bind fun bt114 => ((plane_Along.f k (p :: r) (wrap64 (bt106.1 + 1))).bind fun bt119 => (if bt106.2 = 0 then (if bt109.2.2.2 = 0 then (if bt114.2.2.2 = 0 then (if bt119.2.2.2 = 3 then (if bt106.1 < 0 then (goosenecklaw01_PlaneAlong.j1 k a1 (p :: r) bt106.1 true) else (if (!(bt109.1 == p.f0) || (!(bt109.2.1 == p.f1))) = true then (goosenecklaw01_PlaneAlong.j1 k a1 (p :: r) bt106.1 true) else (goosenecklaw01_PlaneAlong.j1 k a1 (p :: r) bt106.1 (!(bt114.1 == ((p :: r).getLast (by simp)).f0) || (!(bt114.2.1 == ((p :: r).getLast (by simp)).f1)))))) else (goosenecklaw01_PlaneAlong.j1 k a1 (p :: r) bt106.1 true)) else (goosenecklaw01_PlaneAlong.j1 k a1 (p :: r) bt106.1 true)) else (goosenecklaw01_PlaneAlong.j1 k a1 (p :: r) bt106.1 true)) else (goosenecklaw01_PlaneAlong.j1 k a1 (p :: r) bt106.1 true)))))) (fun k => ?_) ?_
    · rw [goosenecklaw01_PlaneAlong.l0, if_neg (by simp)]
      simp only [hw1, hr1, hr0]
      have g1 : ¬ (((p :: r).length : Int) = 0) := by simp only [List.length_cons]; omega
      have g2 : (0 : Int) < (((p :: r).length : Nat) : Int) := by simp only [List.length_cons]; omega
      have g3 : (0 : Int) ≤ ((r.length : Nat) : Int) := by omega
      have g4 : ((r.length : Nat) : Int) < (((p :: r).length : Nat) : Int) := by simp only [List.length_cons]; omega
      simp only [if_neg g1, if_pos g2, if_pos g3, if_pos g4]
    · refine Ev.bind h1 (Ev.bind e0 (Ev.bind en ?_))
      simp only [hw2]
      refine Ev.bind ex ?_
      simp only [if_true, z0.1, z0.2, zn.1, zn.2, beq_self_eq_true, Bool.not_true, Bool.or_self]
      simp only [if_neg (show ¬ n < 0 by omega), Bool.false_eq_true, if_false]
      exact hj
theorem along_loop (a1 a2 : Int) (ha : 0 ≤ a1 ∧ a1 ≤ 65535) (hb : 0 ≤ a2 ∧ a2 ≤ 255) (d : Nat) : ∀ (i : Nat) (l : List S23), l.length - i = d → i ≤ l.length → l.length ≤ 12 → okP l = true → (∀ p ∈ l.drop i, -128 ≤ p.f0 ∧ p.f0 ≤ 127) →
    Ev (fun k => goosenecklaw01_PlaneAlong.l0 k a1 a2 l (i : Int)) true := by
  induction d with
  | zero =>
    intro i l hd hi hl hok _
    have he : i = l.length := by omega
    subst he
    exact along_fin a1 a2 l ha hok hl
  | succ d ih =>
    intro i l hd hi hl hok hs
    have hlt : i < l.length := by omega
    have hx := hs l[i] (by rw [List.drop_eq_getElem_cons hlt]; exact List.mem_cons_self ..)
    have hv := isP_iff.1 (ok_get hok hlt)
    have m := mul_bd (x := l[i].f0) (y := 1 + a2) (A := 128) (B := 256) (by omega) (by omega) (by omega) (by omega)
    refine Ev.step (fun k => ?_) (ih (i + 1) (l.set i ⟨l[i].f0 * (1 + a2), l[i].f1⟩) (by rw [List.length_set]; omega) (by rw [List.length_set]; omega) (by rw [List.length_set]; exact hl) ?_ ?_)
    · rw [goosenecklaw01_PlaneAlong.l0, if_pos (by omega), if_pos (by omega), rd23_nat l i hlt, w64 (x := a2) (by omega) (by omega), w64 (x := 1 + a2) (by omega) (by omega), w64 (x := l[i].f0 * (1 + a2)) (by omega) (by omega), w64 (x := (i : Int) + 1) (by omega) (by omega)]
      rfl
    · rw [okP, List.all_eq_true] at hok ⊢
      intro p hp
      rcases List.mem_or_eq_of_mem_set hp with h | h
      · exact hok p h
      · subst h
        exact isP_iff.2 ⟨⟨by simp only; omega, by simp only; omega⟩, by simp only; exact hv.2⟩
    · intro p hp
      rw [List.drop_set_of_lt (by omega)] at hp
      refine hs p ?_
      rw [List.drop_eq_getElem_cons hlt]
      exact List.mem_cons_of_mem _ hp
theorem PlaneAlong_pure : PlaneAlong_Pure := by
  intro l a1 a2 hl h1 h2
  have r1 : 0 ≤ a1 ∧ a1 ≤ 65535 := wf_u16 h1
  have r2 : 0 ≤ a2 ∧ a2 ≤ 255 := wf_u8 h2
  refine Ev.rounds (g := fun k => goosenecklaw01_PlaneAlong.f k l a1 a2) ?_
  unfold goosenecklaw01_PlaneAlong.f
  obtain ⟨g1, g2⟩ := few_small l 12 hl.2
  refine Ev.bind (few_ev l 12 (by omega) hl.2) ?_
  refine along_loop a1 a2 r1 r2 _ 0 _ rfl (by omega) g1 ?_ ?_
  · rw [okP, List.all_eq_true]
    intro p hp
    have := g2 p hp
    exact isP_iff.2 (by omega)
  · intro p hp
    exact (g2 p (List.mem_of_mem_drop hp)).1
end Go.Proofs.Ytegdcnjjelgpjaa.P
namespace Go.Proofs.Ytegdcnjjelgpjaa.planeAlong
open Go.ChangeShapes Go.WideShapes Go.ChangeAt Go.RowKit Go.Proofs.Ytegdcnjjelgpjaa.P
open Go.Proofs.YtegdcnjjelgpjaaW.PrintWords Go.Proofs.YtegdcnjjelgpjaaW.PrintLast Go.Proofs.YtegdcnjjelgpjaaW.PrintMore
open Go.ChangeMaps (open_string shut_string)
set_option linter.unusedVariables false
theorem own : ownKnob Try.prog.godebug = none := by kernel_rfl
theorem laidOut : laidOutB Try.prog = true := by kernel_rfl
set_option maxRecDepth 100000 in
theorem lifted (os : Os) (started : os.Started) (H : Type) (enc : TypeId × Value → H) :
    ReturnsInHanded {} Try.checked os 8 .any (Rows.planeAlongSpec.pre6 enc Try.prog Try.f8 Rows.planeAlongRow.domain false) (Rows.planeAlongSpec.post enc Try.prog Try.f8 false true false false) := by
  refine returnsInHanded_of_change_sized (C := Try.checked) own started (by kernel_rfl) Try.func8
    (ChangeSpec.witness6 (enc := enc) (C := Try.checked) false ⟨#[], #[.slice none 0 0, .int .u16 0, .int .u8 0], []⟩ 8 (by kernel_rfl) (by kernel_rfl) (by kernel_rfl) (by kernel_rfl)) ?_
  intro W base args ds gs before hval0 hW hcnd hsz0 _
  have hval : ∀ (j : Nat) t v, Try.f8.params[j]? = some t → args[j]? = some v → Value.okWide Try.prog W .any base t v := hval0
  have hW' := hW
  obtain ⟨p, q, hA0, hV, rfl, hfz, hnd⟩ := hW
  have hA : DataW.TrodAll enc Try.prog W 0 (fun _ => true) true Try.f8.params.toList args.toList ds p := hA0
  rw [Try.params8] at hA hval
  obtain ⟨v0, vs0, d0, ds0, p0, q0, hargs, rfl, rfl, h0, r0⟩ := trodAll_cons hA
  obtain ⟨v1, vs1, d1, ds1, p1, q1, rfl, rfl, rfl, h1, r1⟩ := trodAll_cons r0
  obtain ⟨v2, vs2, d2, ds2, p2, q2, rfl, rfl, rfl, h2, r2⟩ := trodAll_cons r1
  obtain ⟨rfl, rfl, rfl⟩ := trodAll_nil r2
  obtain rfl : args = #[v0, v1, v2] := by cases args; simp_all
  obtain ⟨rfl, rfl⟩ := trodVars_none hV
  have k0 := h0
  have lt0 : ∀ x ∈ p0, x.block < W.heap.size := by obtain ⟨m, hm⟩ := k0; exact DataW.trod_lt m _ _ _ hm
  obtain ⟨a0, len0, cap0, rfl⟩ := okWide_slice Try.underlying58 (hval 0 58 v0 rfl rfl)
  obtain ⟨f0, hf0⟩ := h0
  obtain ⟨l0, ⟨A0, c0, e0, hc0, hr0⟩, w0⟩ := (Opens.slice Try.underlying58 (by kernel_rfl) opens32) H enc W _ _ _ _ _ _ hf0
  simp [Value.cells] at e0
  obtain ⟨rfl, rfl, rfl⟩ := e0
  obtain ⟨a1, rfl, rfl, rfl, w1⟩ := open_int Try.underlying33 (hval 1 33 v1 rfl rfl) h1
  obtain ⟨a2, rfl, rfl, rfl, w2⟩ := open_int Try.underlying5 (hval 2 5 v2 rfl rfl) h2
  clear hA0 hval0 hsz0
  obtain ⟨k, hk⟩ := PlaneAlong_pure l0 a1 a2 w0 w1 w2
  refine (goosenecklaw01_PlaneAlong.calls k _ _ l0 a1 a2 true W hr0 hc0 ⟨rfl⟩ hk).mono fun e W' ⟨he, bel⟩ => ?_
  subst he
  exact ⟨_, rfl, _, _, _, [], _, [], hW', trodAll_mk1 (shut_bool Try.underlying4 _), (trodAll_cons_mk (Below.trod laidOut (by kernel_rfl) (of_decide_eq_true (by kernel_rfl)) k0 bel lt0) (trodAll_cons_mk (shut_int Try.underlying33 w1) (trodAll_cons_mk (shut_int Try.underlying5 w2) trodAll_mk0))), rfl, bel.frame _, fun h => by cases h⟩
theorem over : Rows.planeAlongRow.holds Try.pinned (OpenSpec.ofChange Rows.planeAlongSpec) :=
  OpenClaim.holds_of_wide 8 Try.f8 rfl rfl rfl rfl rfl rfl rfl ⟨rfl, rfl, rfl, rfl, rfl⟩ rfl rfl rfl rfl rfl (by kernel_rfl) Try.func8 (by kernel_rfl)
    (of_decide_eq_true (by kernel_rfl)) (by unfold Func.isWrapper; first | (rw [if_pos (by decide +kernel)]; kernel_rfl) | (rw [if_neg (by decide +kernel)]; exact ⟨rfl, rfl⟩))
    (fun os started H enc _ => lifted os started H enc)
theorem proved : Rows.PlaneAlongSaid := over
#print axioms proved
end Go.Proofs.Ytegdcnjjelgpjaa.planeAlong
namespace Go.Proofs.Ytegdcnjjelgpjaa
theorem planeAlong_holds : Rows.PlaneAlongSaid := planeAlong.proved
end Go.Proofs.Ytegdcnjjelgpjaa
