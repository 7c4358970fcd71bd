/- The law PlaneParts answers true at every input and leaves its arguments as they were; no condition. Part 2 of 5. -/
import Init
import Derived.Test.YtegdcnjjelgpjaaCPlaneParts0
import Derived.Sort.LoopGhostIn
import Derived.Shelf.SlSortCmp.NoneTotal
import Derived.Shelf.SlicesQ.Reverse
import Derived.Lib.SliceRun
import Derived.WalkSpells
set_option linter.unusedVariables false
set_option linter.unusedSimpArgs false
namespace Geo
theorem pos_of_mul {a z : Int} (ha : 0 < a) (h : 0 < a * z) : 0 < z := by
  rcases Int.lt_or_le 0 z with g | g
  · exact g
  · have := Int.mul_le_mul_of_nonneg_left g (Int.le_of_lt ha); simp at this; omega
theorem nn_of_mul {a z : Int} (ha : 0 < a) (h : 0 ≤ a * z) : 0 ≤ z := by
  rcases Int.lt_or_le z 0 with g | g
  · have := Int.mul_lt_mul_of_pos_left g ha; simp at this; omega
  · exact g
theorem le_of_mul {a y z : Int} (ha : 0 < a) (h : a * y ≤ a * z) : y ≤ z := by
  have e : a * (z - y) = a * z - a * y := Int.mul_sub ..
  have := nn_of_mul (z := z - y) ha (by omega)
  omega
def Fwd (x y : Int) : Prop := 0 < x ∨ (x = 0 ∧ 0 < y)
theorem Fwd.nn {x y : Int} (h : Fwd x y) : 0 ≤ x := by unfold Fwd at h; omega
theorem Fwd.add {x y z w : Int} (h : Fwd x y) (k : Fwd z w) : Fwd (x + z) (y + w) := by unfold Fwd at *; omega
theorem cross_trans {px py qx qy rx ry : Int} (hp : Fwd px py) (hq : Fwd qx qy) (hr : Fwd rx ry) (h1 : 0 < px * qy - py * qx) (h2 : 0 < qx * ry - qy * rx) : 0 < px * ry - py * rx := by
  have p0 := hp.nn
  have r0 := hr.nn
  rcases Int.lt_or_le 0 qx with g | g
  · have key : qx * (px * ry - py * rx) = rx * (px * qy - py * qx) + px * (qx * ry - qy * rx) := by grind
    have hp1 : 0 < px := by
      rcases hp with h | ⟨h, k⟩
      · exact h
      · subst h
        have := Int.mul_pos k g
        omega
    have a1 := Int.mul_nonneg r0 (Int.le_of_lt h1)
    have a2 := Int.mul_pos hp1 h2
    exact pos_of_mul g (by omega)
  · have q0 := hq.nn
    have e : qx = 0 := by omega
    subst e
    have q1 : 0 < qy := by unfold Fwd at hq; omega
    have := Int.mul_nonneg (Int.le_of_lt q1) r0
    omega
theorem mid_le {px py qx qy u v : Int} (h0 : 0 ≤ px) (h1 : px ≤ qx) (h2 : qx = 0 → 0 ≤ py) (h : px * qy - py * qx ≤ 0) (hv : v ≤ 0) : u * px + v * py ≤ 0 ∨ u * px + v * py ≤ u * qx + v * qy := by
  rcases Int.lt_or_le 0 qx with g | g
  · have key : qx * (u * px + v * py) = px * (u * qx + v * qy) - v * (px * qy - py * qx) := by grind
    have hn : 0 ≤ v * (px * qy - py * qx) := Int.mul_nonneg_of_nonpos_of_nonpos hv h
    rcases Int.lt_or_le 0 (u * qx + v * qy) with k | k
    · right
      have := Int.mul_le_mul_of_nonneg_right h1 (Int.le_of_lt k)
      exact le_of_mul g (by omega)
    · left
      have := Int.mul_le_mul_of_nonneg_left k h0
      rw [Int.mul_zero] at this
      exact le_of_mul g (by rw [Int.mul_zero]; omega)
  · have e : qx = 0 := by omega
    subst e
    have e : px = 0 := by omega
    subst e
    left
    have := Int.mul_nonneg_of_nonpos_of_nonpos hv (show -py ≤ 0 by have := h2 rfl; omega)
    rw [Int.mul_neg] at this
    omega
section
variable {α : Type} (X Y : α → Int)
def cr (a b c : α) : Int := (X b - X a) * (Y c - Y a) - (Y b - Y a) * (X c - X a)
def dt (u v : Int) (p : α) : Int := u * X p + v * Y p
def lt (a b : α) : Prop := Fwd (X b - X a) (Y b - Y a)
variable {X Y}
theorem lt.trans {a b c : α} (h : lt X Y a b) (k : lt X Y b c) : lt X Y a c := by unfold lt Fwd at *; omega
theorem lt.irrefl {a : α} (h : lt X Y a a) : False := by unfold lt Fwd at h; omega
theorem lt.asymm {a b : α} (h : lt X Y a b) (k : lt X Y b a) : False := (h.trans k).irrefl
theorem lt_iff {a b : α} : lt X Y a b ↔ X a < X b ∨ (X a = X b ∧ Y a < Y b) := by unfold lt Fwd; omega
theorem lt_total {a b : α} (h : ¬ lt X Y a b) (k : ¬ lt X Y b a) : X a = X b ∧ Y a = Y b := by rw [lt_iff] at *; omega
theorem cr_cyc (a b c : α) : cr X Y b c a = cr X Y a b c := by unfold cr; grind
theorem cr_self (a b : α) : cr X Y a b b = 0 := by unfold cr; grind
theorem cr_self1 (a b : α) : cr X Y a b a = 0 := by unfold cr; grind
theorem cr_neg (a b c : α) : cr (fun p => - X p) (fun p => - Y p) a b c = cr X Y a b c := by unfold cr; grind
theorem dt_neg (u v : Int) (p : α) : dt (fun p => - X p) (fun p => - Y p) u v p = dt X Y (-u) (-v) p := by unfold dt; grind
theorem lt_neg {a b : α} : lt (fun p => - X p) (fun p => - Y p) a b ↔ lt X Y b a := by rw [lt_iff, lt_iff]; omega
theorem dt_normal (a b w : α) : dt X Y (Y b - Y a) (X a - X b) w - dt X Y (Y b - Y a) (X a - X b) a = - cr X Y a b w := by unfold dt cr; grind
theorem sorted_ext {R : α → α → Prop} (hirr : ∀ a, ¬ R a a) (hasym : ∀ a b, R a b → R b a → False) : ∀ l m : List α, l.Pairwise R → m.Pairwise R → (∀ x, x ∈ l ↔ x ∈ m) → l = m
  | [], [], _, _, _ => rfl
  | [], b :: m, _, _, h => absurd ((h b).2 (List.mem_cons_self ..)) (by simp)
  | a :: l, [], _, _, h => absurd ((h a).1 (List.mem_cons_self ..)) (by simp)
  | a :: l, b :: m, hl, hm, h => by
    rw [List.pairwise_cons] at hl hm
    have e : a = b := by
      rcases List.mem_cons.1 ((h a).1 (List.mem_cons_self ..)) with g | g
      · exact g
      · rcases List.mem_cons.1 ((h b).2 (List.mem_cons_self ..)) with k | k
        · exact k.symm
        · exact (hasym _ _ (hl.1 b k) (hm.1 a g)).elim
    subst e
    congr 1
    refine sorted_ext hirr hasym l m hl.2 hm.2 fun x => ⟨fun hx => ?_, fun hx => ?_⟩
    · rcases List.mem_cons.1 ((h x).1 (List.mem_cons_of_mem _ hx)) with g | g
      · subst g; exact (hirr _ (hl.1 _ hx)).elim
      · exact g
    · rcases List.mem_cons.1 ((h x).2 (List.mem_cons_of_mem _ hx)) with g | g
      · subst g; exact (hirr _ (hm.1 _ hx)).elim
      · exact g
def pop (bad : α → α → α → Bool) (x : α) : List α → List α
  | b :: a :: r => if bad a b x then pop bad x (a :: r) else b :: a :: r
  | l => l
def chain (bad : α → α → α → Bool) : List α → List α → List α
  | [], st => st
  | x :: r, st => chain bad r (x :: pop bad x st)
variable (X Y)
def right (a b c : α) : Bool := decide (cr X Y a b c ≤ 0)
def Trip : List α → Prop
  | [] => True
  | c :: r => r.Pairwise (fun b a => 0 < cr X Y a b c) ∧ Trip r
structure Low (s st : List α) : Prop where
  desc : st.Pairwise (fun a b => lt X Y b a)
  trip : Trip X Y st
  sub : ∀ x ∈ st, x ∈ s
  sup : ∀ u v, v ≤ 0 → ∀ w ∈ s, ∃ x ∈ st, dt X Y u v w ≤ dt X Y u v x
  top : ∀ t, st.head? = some t → ∀ w ∈ s, w = t ∨ lt X Y w t
  bot : ∀ t, st.getLast? = some t → ∀ w ∈ s, w = t ∨ lt X Y t w
variable {X Y}
theorem trip_up {x b a : α} {r : List α} (hd : (b :: a :: r).Pairwise (fun a b => lt X Y b a)) (ht : Trip X Y (b :: a :: r)) (hx : lt X Y b x) (h : 0 < cr X Y a b x) :
    (b :: a :: r).Pairwise (fun b a => 0 < cr X Y a b x) := by
  have hd' := List.pairwise_cons.1 hd
  have hlt : ∀ y ∈ b :: a :: r, lt X Y y x := fun y hy => by
    rcases List.mem_cons.1 hy with g | g
    · subst g; exact hx
    · exact (hd'.1 y g).trans hx
  have hb : ∀ y ∈ a :: r, 0 < cr X Y y b x := by
    intro y hy
    rcases List.mem_cons.1 hy with g | g
    · subst g; exact h
    · have h1 : 0 < cr X Y y a b := (List.pairwise_cons.1 ht.1).1 y g
      have l1 := hd'.1 y hy
      have l2 := hd'.1 a (List.mem_cons_self ..)
      have := cross_trans (px := X b - X y) (py := Y b - Y y) (qx := X b - X a) (qy := Y b - Y a) (rx := X x - X b) (ry := Y x - Y b) l1 l2 hx (by unfold cr at h1; grind) (by unfold cr at h; grind)
      unfold cr; grind
  refine List.pairwise_cons.2 ⟨hb, ?_⟩
  have ht2 : (a :: r).Pairwise (fun c a => 0 < cr X Y a c b) := ht.1
  have hd2 : (a :: r).Pairwise (fun a b => lt X Y b a) := hd'.2
  refine List.Pairwise.imp_of_mem (R := fun c a => 0 < cr X Y a c b ∧ lt X Y a c) ?_ (ht2.and hd2)
  intro y z hy hz hyz
  have h1 := hyz.1
  have h2 := hb y hy
  have l1 := hyz.2
  have l2 := hd'.1 y hy
  have l3 := hlt y (List.mem_cons_of_mem _ hy)
  have := cross_trans (px := X y - X z) (py := Y y - Y z) (qx := X b - X y) (qy := Y b - Y y) (rx := X x - X y) (ry := Y x - Y y) l1 l2 l3 (by unfold cr at h1; grind) (by unfold cr at h2; grind)
  unfold cr; grind
theorem pop_cons2 (bad : α → α → α → Bool) (x b a : α) (r : List α) : pop bad x (b :: a :: r) = if bad a b x then pop bad x (a :: r) else b :: a :: r := by rw [pop]
theorem pop_ne (bad : α → α → α → Bool) (x : α) : ∀ st : List α, st ≠ [] → pop bad x st ≠ []
  | [], h => absurd rfl h
  | [a], _ => by simp [pop]
  | b :: a :: r, _ => by
    rw [pop_cons2]; split
    · exact pop_ne bad x (a :: r) (by simp)
    · simp
theorem pop_last (bad : α → α → α → Bool) (x : α) : ∀ st : List α, (pop bad x st).getLast? = st.getLast?
  | [] => rfl
  | [a] => rfl
  | b :: a :: r => by
    rw [pop_cons2]; split
    · rw [pop_last bad x (a :: r)]; simp
    · rfl
theorem pop_sub (bad : α → α → α → Bool) (x : α) : ∀ st : List α, (pop bad x st).Sublist st
  | [] => List.Sublist.refl _
  | [a] => List.Sublist.refl _
  | b :: a :: r => by
    rw [pop_cons2]; split
    · exact (pop_sub bad x (a :: r)).cons _
    · exact List.Sublist.refl _
theorem pop_trip (x : α) : ∀ st : List α, st.Pairwise (fun a b => lt X Y b a) → Trip X Y st → (∀ y ∈ st, lt X Y y x) → Trip X Y (x :: pop (right X Y) x st)
  | [], _, _, _ => ⟨List.Pairwise.nil, trivial⟩
  | [a], _, _, _ => ⟨by simp [pop], by simp [pop, Trip]⟩
  | b :: a :: r, hd, ht, hx => by
    rw [pop_cons2]
    by_cases h : right X Y a b x = true
    · rw [if_pos h]
      exact pop_trip x (a :: r) (List.pairwise_cons.1 hd).2 ht.2 fun y hy => hx y (List.mem_cons_of_mem _ hy)
    · rw [if_neg h]
      have h' : 0 < cr X Y a b x := by simp [right] at h; omega
      exact ⟨trip_up hd ht (hx b (List.mem_cons_self ..)) h', ht⟩
theorem pop_sup (x : α) (u v : Int) (hv : v ≤ 0) : ∀ st : List α, st.Pairwise (fun a b => lt X Y b a) → (∀ y ∈ st, lt X Y y x) → ∀ w ∈ st, ∃ y ∈ x :: pop (right X Y) x st, dt X Y u v w ≤ dt X Y u v y
  | [], _, _, w, hw => by simp at hw
  | [a], _, _, w, hw => by
    refine ⟨w, ?_, Int.le_refl _⟩
    simp at hw; subst hw; simp [pop]
  | b :: a :: r, hd, hx, w, hw => by
    rw [pop_cons2]
    have hd' := List.pairwise_cons.1 hd
    have ih := pop_sup x u v hv (a :: r) hd'.2 fun y hy => hx y (List.mem_cons_of_mem _ hy)
    by_cases h : right X Y a b x = true
    · rw [if_pos h]
      rcases List.mem_cons.1 hw with g | g
      · subst g
        have h' : cr X Y a w x ≤ 0 := by simpa [right] using h
        have l1 := hd'.1 a (List.mem_cons_self ..)
        have l2 := hx w (List.mem_cons_self ..)
        have := mid_le (px := X w - X a) (py := Y w - Y a) (qx := X x - X a) (qy := Y x - Y a) (u := u) (v := v) l1.nn (by have := l2.nn; omega) (by intro e; unfold lt Fwd at l1 l2; omega) h' hv
        rcases this with k | k
        · obtain ⟨y, hy, hl⟩ := ih a (List.mem_cons_self ..)
          refine ⟨y, hy, Int.le_trans ?_ hl⟩
          unfold dt; rw [Int.mul_sub, Int.mul_sub] at k; omega
        · refine ⟨x, List.mem_cons_self .., ?_⟩
          unfold dt; rw [Int.mul_sub, Int.mul_sub, Int.mul_sub, Int.mul_sub] at k; omega
      · exact ih w g
    · rw [if_neg h]
      exact ⟨w, List.mem_cons_of_mem _ hw, Int.le_refl _⟩
theorem Low.step {s st : List α} (h : Low X Y s st) (hne : st ≠ []) {x : α} (hx : ∀ y ∈ s, lt X Y y x) : Low X Y (s ++ [x]) (x :: pop (right X Y) x st) := by
  have hxs : ∀ y ∈ st, lt X Y y x := fun y hy => hx y (h.sub y hy)
  refine ⟨?_, pop_trip x st h.desc h.trip hxs, ?_, ?_, ?_, ?_⟩
  · exact List.pairwise_cons.2 ⟨fun y hy => hxs y ((pop_sub _ x st).subset hy), h.desc.sublist (pop_sub _ x st)⟩
  · intro y hy
    rcases List.mem_cons.1 hy with g | g
    · simp [g]
    · simp [h.sub y ((pop_sub _ x st).subset g)]
  · intro u v hv w hw
    rcases List.mem_append.1 hw with g | g
    · obtain ⟨y, hy, hl⟩ := h.sup u v hv w g
      obtain ⟨z, hz, hl2⟩ := pop_sup x u v hv st h.desc hxs y hy
      exact ⟨z, hz, Int.le_trans hl hl2⟩
    · simp at g; subst g
      exact ⟨w, List.mem_cons_self .., Int.le_refl _⟩
  · intro t ht w hw
    simp at ht; subst ht
    rcases List.mem_append.1 hw with g | g
    · exact .inr (hx w g)
    · simp at g; exact .inl g
  · intro t ht w hw
    have ht' : st.getLast? = some t := by
      rw [← pop_last (right X Y) x st]
      have hn := pop_ne (right X Y) x st hne
      generalize pop (right X Y) x st = l at *
      cases l with
      | nil => exact absurd rfl hn
      | cons a r => simpa using ht
    rcases List.mem_append.1 hw with g | g
    · exact h.bot t ht' w g
    · simp at g; subst g
      have : t ∈ st := List.mem_of_getLast? ht'
      exact .inr (hxs t this)
theorem Low.one (x : α) : Low X Y [x] [x] := by
  refine ⟨by simp, by simp [Trip], by simp, fun u v _ w hw => ⟨w, hw, Int.le_refl _⟩, ?_, ?_⟩
  · intro t ht w hw; simp at ht hw; subst ht; exact .inl hw
  · intro t ht w hw; simp at ht hw; subst ht; exact .inl hw
theorem chain_low : ∀ (r s st : List α), Low X Y s st → st ≠ [] → (s ++ r).Pairwise (lt X Y) → Low X Y (s ++ r) (chain (right X Y) r st)
  | [], s, st, h, _, _ => by rw [List.append_nil]; exact h
  | x :: r, s, st, h, hne, hs => by
    rw [chain]
    have e : s ++ x :: r = (s ++ [x]) ++ r := by simp
    rw [e] at hs ⊢
    refine chain_low r (s ++ [x]) _ (h.step hne ?_) (by simp) hs
    intro y hy
    have := List.pairwise_append.1 (List.pairwise_append.1 hs).1
    exact this.2.2 y hy x (by simp)
theorem chain_ok {s : List α} (hne : s ≠ []) (hs : s.Pairwise (lt X Y)) : Low X Y s (chain (right X Y) s []) := by
  cases s with
  | nil => exact absurd rfl hne
  | cons x r =>
    rw [chain]
    exact chain_low r [x] [x] (Low.one x) (by simp) hs
end
section
variable {α : Type} {X Y : α → Int}
theorem trip_get : ∀ (st : List α), Trip X Y st → ∀ (i j k : Nat) (hk : k < st.length) (hj : j < st.length) (hi : i < st.length), i < j → j < k → 0 < cr X Y st[k] st[j] st[i]
  | [], _, i, _, _, hk, _, _, _, _ => absurd hk (by simp)
  | c :: r, h, 0, j + 1, k + 1, hk, hj, hi, h1, h2 => by
    have := List.pairwise_iff_getElem.1 h.1 j k (by simpa using hj) (by simpa using hk) (by omega)
    simpa using this
  | c :: r, h, i + 1, j + 1, k + 1, hk, hj, hi, h1, h2 => by
    have := trip_get r h.2 i j k (by simpa using hk) (by simpa using hj) (by simpa using hi) (by omega) (by omega)
    simpa using this
  | c :: r, h, _, 0, _, _, _, _, h1, _ => absurd h1 (by omega)
  | c :: r, h, _, _ + 1, 0, _, _, _, _, h2 => absurd h2 (by omega)
variable (X Y)
structure LowL (s L : List α) : Prop where
  ne : 0 < L.length
  asc : L.Pairwise (lt X Y)
  tri : ∀ (i j k : Nat) (hk : k < L.length) (hj : j < L.length) (hi : i < L.length), i < j → j < k → 0 < cr X Y L[i] L[j] L[k]
  sub : ∀ x ∈ L, x ∈ s
  sup : ∀ u v, v ≤ 0 → ∀ w ∈ s, ∃ x ∈ L, dt X Y u v w ≤ dt X Y u v x
  top : ∀ w ∈ s, w = L[L.length - 1] ∨ lt X Y w L[L.length - 1]
  bot : ∀ w ∈ s, w = L[0] ∨ lt X Y L[0] w
variable {X Y}
theorem Low.list {s st : List α} (h : Low X Y s st) (hne : st ≠ []) : LowL X Y s st.reverse := by
  have hn : 0 < st.length := List.length_pos_iff.2 hne
  refine ⟨by simpa using hn, List.pairwise_reverse.2 h.desc, ?_, fun x hx => h.sub x (by simpa using hx), fun u v hv w hw => ?_, ?_, ?_⟩
  · intro i j k hk hj hi h1 h2
    simp only [List.length_reverse] at hk hj hi
    rw [List.getElem_reverse, List.getElem_reverse, List.getElem_reverse]
    exact trip_get st h.trip _ _ _ (by omega) (by omega) (by omega) (by omega) (by omega)
  · obtain ⟨x, hx, hl⟩ := h.sup u v hv w hw
    exact ⟨x, by simpa using hx, hl⟩
  · have e : st.reverse[st.reverse.length - 1]'(by simp; omega) = st[0] := by
      rw [List.getElem_reverse]; congr 1; simp
    rw [e]
    exact h.top _ (by rw [List.head?_eq_getElem?, List.getElem?_eq_getElem hn])
  · have e : st.reverse[0]'(by simpa using hn) = st[st.length - 1] := by
      rw [List.getElem_reverse]; congr 1
    rw [e]
    exact h.bot _ (by rw [List.getLast?_eq_getElem?, List.getElem?_eq_getElem (by omega)])
theorem LowL.asc_get {s L : List α} (h : LowL X Y s L) (i j : Nat) (hi : i < L.length) (hj : j < L.length) (hij : i < j) : lt X Y L[i] L[j] := List.pairwise_iff_getElem.1 h.asc i j hi hj hij
theorem LowL.edge {s L : List α} (h : LowL X Y s L) (i : Nat) (hi : i + 1 < L.length) : ∀ w ∈ s, 0 ≤ cr X Y L[i] L[i + 1] w := by
  intro w hw
  have hf := h.asc_get i (i + 1) (by omega) hi (by omega)
  obtain ⟨x, hx, hl⟩ := h.sup (Y L[i + 1] - Y L[i]) (X L[i] - X L[i + 1]) (by have := hf.nn; omega) w hw
  obtain ⟨j, hj, rfl⟩ := List.getElem_of_mem hx
  have k : 0 ≤ cr X Y L[i] L[i + 1] L[j] := by
    rcases Nat.lt_trichotomy j i with g | g | g
    · have := h.tri j i (i + 1) hi (by omega) hj g (by omega)
      have e : cr X Y L[i] L[i + 1] L[j] = cr X Y L[j] L[i] L[i + 1] := cr_cyc _ _ _
      omega
    · subst g; rw [cr_self1]; omega
    · rcases Nat.lt_or_ge (i + 1) j with k | k
      · have := h.tri i (i + 1) j hj hi (by omega) (by omega) k; omega
      · have e : j = i + 1 := by omega
        subst e; rw [cr_self]; omega
  have e1 := dt_normal (X := X) (Y := Y) L[i] L[i + 1] w
  have e2 := dt_normal (X := X) (Y := Y) L[i] L[i + 1] L[j]
  omega
theorem exposed_of {s : List α} {a b c : α} (hinj : ∀ p q : α, X p = X q → Y p = Y q → p = q) (h : 0 < cr X Y a b c) (h1 : ∀ w ∈ s, 0 ≤ cr X Y a b w) (h2 : ∀ w ∈ s, 0 ≤ cr X Y b c w) :
    ∀ w ∈ s, w ≠ b → dt X Y (Y c - Y a) (X a - X c) w < dt X Y (Y c - Y a) (X a - X c) b := by
  intro w hw hne
  have k1 := h1 w hw
  have k2 := h2 w hw
  have v1 : dt X Y (Y c - Y a) (X a - X c) w - dt X Y (Y c - Y a) (X a - X c) b = - (cr X Y a b w + cr X Y b c w) := by unfold dt cr; grind
  rcases Int.lt_or_le 0 (cr X Y a b w + cr X Y b c w) with g | g
  · omega
  · exfalso
    have z1 : cr X Y a b w = 0 := by omega
    have z2 : cr X Y b c w = 0 := by omega
    have e1 : cr X Y a b c * (X w - X b) = cr X Y a b w * (X c - X b) - cr X Y b c w * (X b - X a) := by unfold cr; grind
    have e2 : cr X Y a b c * (Y w - Y b) = cr X Y a b w * (Y c - Y b) - cr X Y b c w * (Y b - Y a) := by unfold cr; grind
    rw [z1, z2, Int.zero_mul, Int.zero_mul] at e1 e2
    have f1 := Int.mul_eq_zero.1 e1
    have f2 := Int.mul_eq_zero.1 e2
    exact hne (hinj _ _ (by omega) (by omega))
theorem LowL.exposed {s L : List α} (hinj : ∀ p q : α, X p = X q → Y p = Y q → p = q) (h : LowL X Y s L) (i : Nat) (hi : i + 2 < L.length) :
    ∃ u v, v ≤ 0 ∧ ∀ w ∈ s, w ≠ L[i + 1] → dt X Y u v w < dt X Y u v L[i + 1] :=
  ⟨_, _, by have := (h.asc_get i (i + 2) (by omega) hi (by omega)).nn; omega, exposed_of hinj (h.tri i (i + 1) (i + 2) hi (by omega) (by omega) (by omega) (by omega)) (h.edge i (by omega)) (h.edge (i + 1) (by omega))⟩
theorem LowL.mem_of {s L T : List α} (hinj : ∀ p q : α, X p = X q → Y p = Y q → p = q) (h : LowL X Y s L) (k : LowL X Y s T) : ∀ x ∈ L, x ∈ T := by
  intro x hx
  obtain ⟨i, hi, rfl⟩ := List.getElem_of_mem hx
  have hT := k.ne
  by_cases h0 : i = 0
  · subst h0
    have e : L[0] = T[0] := by
      rcases h.bot T[0] (k.sub _ (List.getElem_mem _)) with g | g
      · exact g.symm
      · rcases k.bot L[0] (h.sub _ (List.getElem_mem _)) with g2 | g2
        · exact g2
        · exact (g.asymm g2).elim
    rw [e]; exact List.getElem_mem _
  · by_cases h1 : i = L.length - 1
    · subst h1
      have e : L[L.length - 1] = T[T.length - 1] := by
        rcases h.top T[T.length - 1] (k.sub _ (List.getElem_mem _)) with g | g
        · exact g.symm
        · rcases k.top L[L.length - 1] (h.sub _ (List.getElem_mem _)) with g2 | g2
          · exact g2
          · exact (g.asymm g2).elim
      rw [e]; exact List.getElem_mem _
    · obtain ⟨j, rfl⟩ : ∃ j, i = j + 1 := ⟨i - 1, by omega⟩
      obtain ⟨u, v, hv, hex⟩ := h.exposed hinj j (by omega)
      obtain ⟨y, hy, hl⟩ := k.sup u v hv _ (h.sub _ hx)
      by_cases e : y = L[j + 1]
      · rw [← e]; exact hy
      · have := hex y (k.sub y hy) e; omega
theorem LowL.unique {s L T : List α} (hinj : ∀ p q : α, X p = X q → Y p = Y q → p = q) (h : LowL X Y s L) (k : LowL X Y s T) : L = T :=
  sorted_ext (R := lt X Y) (fun _ => lt.irrefl) (fun _ _ => lt.asymm) L T h.asc k.asc fun x => ⟨h.mem_of hinj k x, k.mem_of hinj h x⟩
theorem LowL.of_sub {s s' L : List α} (h : LowL X Y s L) (h1 : ∀ x ∈ L, x ∈ s') (h2 : ∀ x ∈ s', x ∈ s) : LowL X Y s' L :=
  ⟨h.ne, h.asc, h.tri, h1, fun u v hv w hw => h.sup u v hv w (h2 w hw), fun w hw => h.top w (h2 w hw), fun w hw => h.bot w (h2 w hw)⟩
theorem right_neg : right (fun p => - X p) (fun p => - Y p) = right X Y := by
  funext a b c; unfold right; rw [cr_neg]
theorem chain_ne (bad : α → α → α → Bool) : ∀ (r st : List α), st ≠ [] ∨ r ≠ [] → chain bad r st ≠ []
  | [], st, h => by rw [chain]; rcases h with h | h; exact h; exact absurd rfl h
  | x :: r, st, _ => by rw [chain]; exact chain_ne bad r _ (.inl (by simp))
variable (X Y)
def lowC (s : List α) : List α := (chain (right X Y) s []).reverse
def highC (s : List α) : List α := (chain (right X Y) s.reverse []).reverse
def hullOf (s : List α) : List α := if s.length < 2 then s else (lowC X Y s).dropLast ++ (highC X Y s).dropLast
variable {X Y}
theorem lowC_ok {s : List α} (hne : s ≠ []) (hs : s.Pairwise (lt X Y)) : LowL X Y s (lowC X Y s) := (chain_ok hne hs).list (chain_ne _ _ _ (.inr hne))
theorem highC_ok {s : List α} (hne : s ≠ []) (hs : s.Pairwise (lt X Y)) : LowL (fun p => - X p) (fun p => - Y p) s (highC X Y s) := by
  have hne' : s.reverse ≠ [] := by simpa using hne
  have h := (chain_ok (X := fun p => - X p) (Y := fun p => - Y p) hne' (List.pairwise_reverse.2 (hs.imp fun h => lt_neg.2 h))).list (chain_ne _ _ _ (.inr hne'))
  rw [right_neg] at h
  exact h.of_sub (fun x hx => by simpa using h.sub x hx) (fun x hx => by simpa using hx)
theorem junction {s L M : List α} (h : LowL X Y s L) (k : LowL (fun p => - X p) (fun p => - Y p) s M) (h1 : 2 ≤ L.length) (h2 : 2 ≤ M.length) (h3 : 5 ≤ L.length + M.length) (e : L[L.length - 1] = M[0]) : 0 < cr X Y L[L.length - 2] M[0] M[1] := by
  have hm : M[1] ∈ s := k.sub _ (List.getElem_mem _)
  obtain ⟨m, hm2⟩ : ∃ m, L.length = m + 2 := ⟨L.length - 2, by omega⟩
  have e' : L[m + 1] = M[0] := by rw [← e]; congr 1; omega
  have eL : L[L.length - 2] = L[m] := by congr 1; omega
  rw [eL]
  have edge1 := h.edge m (by omega)
  rw [e'] at edge1
  have edge2 := k.edge 0 (by omega)
  simp only [cr_neg, Nat.zero_add] at edge2
  have f1 := h.asc_get m (m + 1) (by omega) (by omega) (by omega)
  have f2 := k.asc_get 0 1 (by omega) (by omega) (by omega)
  rw [lt_neg] at f2
  rw [e'] at f1
  rcases Int.lt_or_le 0 (cr X Y L[m] M[0] M[1]) with g | g
  · exact g
  · exfalso
    have z : cr X Y L[m] M[0] M[1] = 0 := by have := edge1 _ hm; omega
    -- all points are on one line
    have all : ∀ w ∈ s, cr X Y L[m] M[0] w = 0 ∧ cr X Y M[0] M[1] w = 0 := by
      intro w hw
      have g1 := edge1 w hw
      have g2 := edge2 w hw
      have a1 : (X M[0] - X L[m]) * cr X Y M[0] M[1] w = (X M[1] - X M[0]) * cr X Y L[m] M[0] w - cr X Y L[m] M[0] M[1] * (X w - X M[0]) := by unfold cr; grind
      have a2 : (Y M[0] - Y L[m]) * cr X Y M[0] M[1] w = (Y M[1] - Y M[0]) * cr X Y L[m] M[0] w - cr X Y L[m] M[0] M[1] * (Y w - Y M[0]) := by unfold cr; grind
      have a3 : (X M[0] - X L[m]) * (Y M[1] - Y M[0]) - (Y M[0] - Y L[m]) * (X M[1] - X M[0]) = 0 := by rw [← z]; unfold cr; grind
      rw [z, Int.zero_mul, Int.sub_zero] at a1 a2
      unfold lt Fwd at f1 f2
      rcases Int.lt_or_le 0 (X M[0] - X L[m]) with q | q
      · have q2 : X M[1] - X M[0] < 0 := by
          rcases f2 with f2 | ⟨f2, f3⟩
          · omega
          · have : X M[1] - X M[0] = 0 := by omega
            rw [this, Int.mul_zero, Int.sub_zero] at a3
            have := Int.mul_eq_zero.1 a3
            omega
        have b1 := Int.mul_nonneg (Int.le_of_lt q) g2
        have b2 := Int.mul_nonneg (show 0 ≤ -(X M[1] - X M[0]) by omega) g1
        rw [Int.neg_mul] at b2
        have c1 : (X M[0] - X L[m]) * cr X Y M[0] M[1] w = 0 := by omega
        have c2 : (X M[1] - X M[0]) * cr X Y L[m] M[0] w = 0 := by omega
        have := Int.mul_eq_zero.1 c1
        have := Int.mul_eq_zero.1 c2
        omega
      · have q1 : X M[0] - X L[m] = 0 := by omega
        have q2 : 0 < Y M[0] - Y L[m] := by omega
        rw [q1, Int.zero_mul] at a3
        have : (Y M[0] - Y L[m]) * (X M[1] - X M[0]) = 0 := by omega
        have q3 : X M[1] - X M[0] = 0 := by have := Int.mul_eq_zero.1 this; omega
        have q4 : Y M[1] - Y M[0] < 0 := by omega
        have b1 := Int.mul_nonneg (Int.le_of_lt q2) g2
        have b2 := Int.mul_nonneg (show 0 ≤ -(Y M[1] - Y M[0]) by omega) g1
        rw [Int.neg_mul] at b2
        have c1 : (Y M[0] - Y L[m]) * cr X Y M[0] M[1] w = 0 := by omega
        have c2 : (Y M[1] - Y M[0]) * cr X Y L[m] M[0] w = 0 := by omega
        have := Int.mul_eq_zero.1 c1
        have := Int.mul_eq_zero.1 c2
        omega
    by_cases c : 3 ≤ L.length
    · have t := h.tri (m - 1) m (m + 1) (by omega) (by omega) (by omega) (by omega) (by omega)
      rw [e'] at t
      have := (all L[m - 1] (h.sub _ (List.getElem_mem _))).1
      have e3 : cr X Y L[m] M[0] L[m - 1] = cr X Y L[m - 1] L[m] M[0] := cr_cyc _ _ _
      omega
    · have t := k.tri 0 1 2 (by omega) (by omega) (by omega) (by omega) (by omega)
      rw [cr_neg] at t
      have := (all M[2] (k.sub _ (List.getElem_mem _))).2
      omega
end
section
variable {α : Type} (X Y : α → Int)
def Next (n i j : Nat) : Prop := j = i + 1 ∨ (i + 1 = n ∧ j = 0)
structure IsH (s h : List α) : Prop where
  ne : 0 < h.length
  sub : ∀ x ∈ h, x ∈ s
  sup : ∀ u v, ∀ w ∈ s, ∃ x ∈ h, dt X Y u v w ≤ dt X Y u v x
  left : ∀ (i j : Nat) (hi : i < h.length) (hj : j < h.length), Next h.length i j → ∀ w ∈ s, 0 ≤ cr X Y h[i] h[j] w
  turn : 3 ≤ h.length → ∀ (i j k : Nat) (hi : i < h.length) (hj : j < h.length) (hk : k < h.length), Next h.length i j → Next h.length j k → 0 < cr X Y h[i] h[j] h[k]
  nodup : h.Nodup
  first : ∀ w ∈ s, w = h[0] ∨ lt X Y h[0] w
variable {X Y}
structure Both (X Y : α → Int) (s L M : List α) : Prop where
  l : LowL X Y s L
  m : LowL (fun p => - X p) (fun p => - Y p) s M
  l2 : 2 ≤ L.length
  m2 : 2 ≤ M.length
  j0 : L[L.length - 1]'(by omega) = M[0]'(by omega)
  j1 : M[M.length - 1]'(by omega) = L[0]'(by omega)
theorem both_of {s L M : List α} (h : LowL X Y s L) (k : LowL (fun p => - X p) (fun p => - Y p) s M) (hs : s.Pairwise (lt X Y)) (h2 : 2 ≤ s.length) : Both X Y s L M := by
  have hl := h.ne
  have hm := k.ne
  have lt01 : lt X Y s[0] s[1] := List.pairwise_iff_getElem.1 hs 0 1 (by omega) (by omega) (by omega)
  have nle : ∀ a : α, ¬ (∀ w ∈ s, w = a ∨ lt X Y w a) ∨ ¬ (∀ w ∈ s, w = a ∨ lt X Y a w) := by
    intro a
    refine Classical.byContradiction fun g => ?_
    have g1 : ∀ w ∈ s, w = a ∨ lt X Y w a := Classical.byContradiction fun q => g (.inl q)
    have g2 : ∀ w ∈ s, w = a ∨ lt X Y a w := Classical.byContradiction fun q => g (.inr q)
    have e : ∀ w ∈ s, w = a := fun w hw => by
      rcases g1 w hw with q | q
      · exact q
      · rcases g2 w hw with p | p
        · exact p
        · exact (q.asymm p).elim
    have a0 := e s[0] (List.getElem_mem _)
    have a1 := e s[1] (List.getElem_mem _)
    rw [a0, a1] at lt01
    exact lt01.irrefl
  have l2 : 2 ≤ L.length := by
    rcases Nat.lt_or_ge L.length 2 with g | g
    · exfalso
      have e : L[L.length - 1] = L[0] := by congr 1; omega
      have t := h.top
      rw [e] at t
      rcases nle L[0] with q | q
      · exact q t
      · exact q h.bot
    · exact g
  have m2 : 2 ≤ M.length := by
    rcases Nat.lt_or_ge M.length 2 with g | g
    · exfalso
      have e : M[M.length - 1] = M[0] := by congr 1; omega
      have t := k.top
      have b := k.bot
      rw [e] at t
      simp only [lt_neg] at t b
      rcases nle M[0] with q | q
      · exact q b
      · exact q t
    · exact g
  refine ⟨h, k, l2, m2, ?_, ?_⟩
  · rcases h.top M[0] (k.sub _ (List.getElem_mem _)) with g | g
    · exact g.symm
    · have := k.bot L[L.length - 1] (h.sub _ (List.getElem_mem _))
      rw [lt_neg] at this
      rcases this with q | q
      · exact q
      · exact (g.asymm q).elim
  · have := k.top L[0] (h.sub _ (List.getElem_mem _))
    rw [lt_neg] at this
    rcases this with q | q
    · exact q.symm
    · rcases h.bot M[M.length - 1] (k.sub _ (List.getElem_mem _)) with g | g
      · exact g
      · exact (g.asymm q).elim
theorem Both.next {s L M h : List α} (b : Both X Y s L M) (e : h = L.dropLast ++ M.dropLast) (i j : Nat) (hi : i < h.length) (hj : j < h.length) (hn : Next h.length i j) :
    (∃ (a : Nat) (ha : a + 1 < L.length), h[i] = L[a] ∧ h[j] = L[a + 1] ∧ i = a) ∨ (∃ (a : Nat) (ha : a + 1 < M.length), h[i] = M[a] ∧ h[j] = M[a + 1] ∧ i = L.length - 1 + a) := by
  have l2 := b.l2
  have m2 := b.m2
  have hl : h.length = L.length - 1 + (M.length - 1) := by rw [e]; simp
  have getL : ∀ (a : Nat) (ha : a < L.length - 1) (ha' : a < h.length), h[a] = L[a] := by
    intro a ha ha'
    subst e
    rw [List.getElem_append_left (by simpa using ha), List.getElem_dropLast]
  have getM : ∀ (a : Nat) (ha : a < M.length - 1) (ha' : L.length - 1 + a < h.length), h[L.length - 1 + a] = M[a] := by
    intro a ha ha'
    subst e
    rw [List.getElem_append_right (by simp)]
    simp [List.getElem_dropLast]
  rcases Nat.lt_or_ge i (L.length - 1) with g | g
  · left
    refine ⟨i, by omega, getL i g hi, ?_, rfl⟩
    rcases hn with q | q
    · subst q
      rcases Nat.lt_or_ge (i + 1) (L.length - 1) with p | p
      · exact getL _ p hj
      · have e1 : i + 1 = L.length - 1 := by omega
        have e2 := getM 0 (by omega) (by omega)
        have e3 : h[i + 1] = h[L.length - 1 + 0] := by congr 1
        rw [e3, e2, ← b.j0]
        congr 1; omega
    · omega
  · right
    obtain ⟨a, rfl⟩ : ∃ a, i = L.length - 1 + a := ⟨i - (L.length - 1), by omega⟩
    refine ⟨a, by omega, getM a (by omega) hi, ?_, rfl⟩
    rcases hn with q | q
    · subst q
      exact getM (a + 1) (by omega) hj
    · obtain ⟨q1, rfl⟩ := q
      have e1 : M[a + 1] = M[M.length - 1] := by congr 1; omega
      rw [getL 0 (by omega) hj, e1, b.j1]
theorem mem_dropLast {l : List α} {x : α} (h : x ∈ l) : x ∈ l.dropLast ∨ ∃ hl : l.length - 1 < l.length, x = l[l.length - 1] := by
  obtain ⟨i, hi, rfl⟩ := List.getElem_of_mem h
  rcases Nat.lt_or_ge i (l.length - 1) with g | g
  · left
    have : l.dropLast[i]'(by simpa using g) = l[i] := List.getElem_dropLast ..
    rw [← this]; exact List.getElem_mem _
  · right
    exact ⟨by omega, by congr 1; omega⟩
theorem Both.memL {s L M : List α} (b : Both X Y s L M) : ∀ x ∈ L, x ∈ L.dropLast ++ M.dropLast := by
  intro x hx
  have m2 := b.m2
  rcases mem_dropLast hx with g | ⟨_, rfl⟩
  · exact List.mem_append_left _ g
  · rw [b.j0]
    have : M.dropLast[0]'(by simp; omega) = M[0]'(by omega) := List.getElem_dropLast ..
    rw [← this]
    exact List.mem_append_right _ (List.getElem_mem _)
theorem Both.memM {s L M : List α} (b : Both X Y s L M) : ∀ x ∈ M, x ∈ L.dropLast ++ M.dropLast := by
  intro x hx
  have l2 := b.l2
  rcases mem_dropLast hx with g | ⟨_, rfl⟩
  · exact List.mem_append_right _ g
  · rw [b.j1]
    have : L.dropLast[0]'(by simp; omega) = L[0]'(by omega) := List.getElem_dropLast ..
    rw [← this]
    exact List.mem_append_left _ (List.getElem_mem _)
theorem Both.hull {s L M : List α} (b : Both X Y s L M) : IsH X Y s (L.dropLast ++ M.dropLast) := by
  have l2 := b.l2
  have m2 := b.m2
  have hl : (L.dropLast ++ M.dropLast).length = L.length - 1 + (M.length - 1) := by simp
  have h0 : (L.dropLast ++ M.dropLast)[0]'(by omega) = L[0] := by
    rw [List.getElem_append_left (by simp; omega), List.getElem_dropLast]
  refine ⟨by omega, ?_, ?_, ?_, ?_, ?_, ?_⟩
  · intro x hx
    rcases List.mem_append.1 hx with g | g
    · exact b.l.sub x (List.dropLast_subset _ g)
    · exact b.m.sub x (List.dropLast_subset _ g)
  · intro u v w hw
    rcases Int.lt_or_le 0 v with g | g
    · obtain ⟨x, hx, hq⟩ := b.m.sup (-u) (-v) (by omega) w hw
      rw [dt_neg, dt_neg, Int.neg_neg, Int.neg_neg] at hq
      exact ⟨x, b.memM x hx, hq⟩
    · obtain ⟨x, hx, hq⟩ := b.l.sup u v g w hw
      exact ⟨x, b.memL x hx, hq⟩
  · intro i j hi hj hn w hw
    rcases b.next rfl i j hi hj hn with ⟨a, ha, e1, e2, _⟩ | ⟨a, ha, e1, e2, _⟩
    · rw [e1, e2]; exact b.l.edge a ha w hw
    · rw [e1, e2, ← cr_neg]; exact b.m.edge a ha w hw
  · intro h3 i j k hi hj hk hn hn2
    rcases b.next rfl i j hi hj hn with ⟨a, ha, e1, e2, e3⟩ | ⟨a, ha, e1, e2, e3⟩ <;> rcases b.next rfl j k hj hk hn2 with ⟨c, hc, e4, e5, e6⟩ | ⟨c, hc, e4, e5, e6⟩
    · have e7 : c = a + 1 := by unfold Next at hn; omega
      subst e7
      rw [e1, e4, e5]
      exact b.l.tri a (a + 1) (a + 2) hc (by omega) (by omega) (by omega) (by omega)
    · have e7 : c = 0 ∧ a + 2 = L.length := by unfold Next at hn; omega
      obtain ⟨rfl, e8⟩ := e7
      have e9 : L[a] = L[L.length - 2] := by congr 1; omega
      rw [e1, e4, e5, e9]
      exact junction b.l b.m l2 m2 (by omega) b.j0
    · have e7 : c = 0 ∧ a + 2 = M.length := by unfold Next at hn; omega
      obtain ⟨rfl, e8⟩ := e7
      have e9 : M[a] = M[M.length - 2] := by congr 1; omega
      rw [e1, e4, e5, e9]
      have := junction (X := fun p => - X p) (Y := fun p => - Y p) b.m (by simpa only [Int.neg_neg] using b.l) m2 l2 (by omega) b.j1
      rwa [cr_neg] at this
    · have e7 : c = a + 1 := by unfold Next at hn; omega
      subst e7
      rw [e1, e4, e5, ← cr_neg]
      exact b.m.tri a (a + 1) (a + 2) hc (by omega) (by omega) (by omega) (by omega)
  · refine List.nodup_append.2 ⟨?_, ?_, ?_⟩
    · exact (b.l.asc.sublist (List.dropLast_sublist _)).imp fun h e => by subst e; exact h.irrefl
    · exact (b.m.asc.sublist (List.dropLast_sublist _)).imp fun h e => by subst e; exact h.irrefl
    · intro x hx y hy e
      subst e
      obtain ⟨i, hi, ei⟩ := List.getElem_of_mem hx
      obtain ⟨j, hj, ej⟩ := List.getElem_of_mem hy
      simp only [List.length_dropLast] at hi hj
      rw [List.getElem_dropLast] at ei ej
      subst ei
      rcases Nat.eq_zero_or_pos i with g | g
      · subst g
        have := b.m.asc_get j (M.length - 1) (by omega) (by omega) (by omega)
        rw [ej, b.j1] at this
        exact this.irrefl
      · rcases Nat.eq_zero_or_pos j with q | q
        · subst q
          have := b.l.asc_get i (L.length - 1) (by omega) (by omega) (by omega)
          rw [b.j0, ej] at this
          exact this.irrefl
        · have t1 := b.l.tri 0 i (L.length - 1) (by omega) (by omega) (by omega) g (by omega)
          have t2 := b.m.tri 0 j (M.length - 1) (by omega) (by omega) (by omega) q (by omega)
          rw [b.j0] at t1
          rw [cr_neg, b.j1, ej] at t2
          have e1 : cr X Y M[0] L[i] L[0] = - cr X Y L[0] L[i] M[0] := by unfold cr; grind
          omega
  · intro w hw
    rw [h0]
    exact b.l.bot w hw
theorem hullOf_one {x : α} : IsH X Y [x] [x] := by
  refine ⟨by simp, by simp, fun u v w hw => ⟨w, hw, Int.le_refl _⟩, ?_, fun h => absurd h (by simp), by simp, fun w hw => .inl (by simpa using hw)⟩
  intro i j hi hj _ w hw
  simp at hi hj hw
  subst hi hj hw
  simp [cr_self]
theorem hullOf_ok {s : List α} (hne : s ≠ []) (hs : s.Pairwise (lt X Y)) : IsH X Y s (hullOf X Y s) := by
  unfold hullOf
  by_cases h : s.length < 2
  · rw [if_pos h]
    match s, hne, h with
    | [x], _, _ => exact hullOf_one
    | _ :: _ :: _, _, h => simp at h; omega
  · rw [if_neg h]
    exact (both_of (lowC_ok hne hs) (highC_ok hne hs) hs (by omega)).hull
theorem hullOf_same {s t : List α} (hinj : ∀ p q : α, X p = X q → Y p = Y q → p = q) (hne : s ≠ []) (hs : s.Pairwise (lt X Y)) (ht : t.Pairwise (lt X Y)) (h1 : ∀ x ∈ hullOf X Y s, x ∈ t) (h2 : ∀ x ∈ t, x ∈ s) : hullOf X Y t = hullOf X Y s := by
  have hok := hullOf_ok hne hs
  have htne : t ≠ [] := by
    rintro rfl
    have := h1 _ (List.getElem_mem hok.ne)
    simp at this
  by_cases h : s.length < 2
  · match s, hne, h with
    | [x], _, _ =>
      have e : t = [x] := by
        refine sorted_ext (R := lt X Y) (fun _ => lt.irrefl) (fun _ _ => lt.asymm) _ _ ht hs fun y => ⟨h2 y, fun hy => ?_⟩
        exact h1 y (by simpa [hullOf] using hy)
      rw [e]
    | _ :: _ :: _, _, h => simp at h; omega
  · have b := both_of (lowC_ok hne hs) (highC_ok hne hs) hs (by omega)
    have eS : hullOf X Y s = (lowC X Y s).dropLast ++ (highC X Y s).dropLast := if_neg h
    rw [eS] at h1
    have kl := b.l.of_sub (fun x hx => h1 x (b.memL x hx)) h2
    have km := b.m.of_sub (fun x hx => h1 x (b.memM x hx)) h2
    have e1 := kl.unique hinj (lowC_ok htne ht)
    have hinj' : ∀ p q : α, (fun p => - X p) p = (fun p => - X p) q → (fun p => - Y p) p = (fun p => - Y p) q → p = q := fun p q a b => hinj p q (by simpa using a) (by simpa using b)
    have e2 := km.unique hinj' (highC_ok htne ht)
    have ht2 : ¬ t.length < 2 := by
      intro g
      have l2 := b.l2
      have : (lowC X Y s)[0] = (lowC X Y s)[1] := by
        match t, htne, g with
        | [x], _, _ =>
          have q0 := kl.sub _ (List.getElem_mem (show 0 < (lowC X Y s).length by omega))
          have q1 := kl.sub _ (List.getElem_mem (show 1 < (lowC X Y s).length by omega))
          simp at q0 q1
          rw [q0, q1]
        | _ :: _ :: _, _, h => simp at h; omega
      have k := b.l.asc_get 0 1 (by omega) (by omega) (by omega)
      rw [this] at k
      exact k.irrefl
    rw [eS, hullOf, if_neg ht2, ← e1, ← e2]
end
section
variable {α : Type} (X Y : α → Int)
def Sep (u v : Int) (A B : List α) : Prop := ∀ a ∈ A, ∀ b ∈ B, dt X Y u v a < dt X Y u v b
def DirOf (h : List α) (u v : Int) : Prop := ∃ (i j : Nat) (hi : i < h.length) (hj : j < h.length), Next h.length i j ∧
  ((u = Y h[j] - Y h[i] ∧ v = -(X h[j] - X h[i])) ∨ (u = -(Y h[j] - Y h[i]) ∧ v = X h[j] - X h[i]) ∨ (u = X h[j] - X h[i] ∧ v = Y h[j] - Y h[i]) ∨ (u = -(X h[j] - X h[i]) ∧ v = -(Y h[j] - Y h[i])))
variable {X Y}
theorem least_ratio (p q : Int × Int → Int) : ∀ V : List (Int × Int), (∃ v ∈ V, 0 < q v) → ∃ v ∈ V, 0 < q v ∧ ∀ v' ∈ V, 0 < q v' → p v * q v' ≤ p v' * q v
  | [], h => by simp at h
  | v :: V, h => by
    by_cases hV : ∃ v ∈ V, 0 < q v
    · obtain ⟨m, hm, hq, hmin⟩ := least_ratio p q V hV
      by_cases hv : 0 < q v ∧ p v * q m ≤ p m * q v
      · refine ⟨v, List.mem_cons_self .., hv.1, fun w hw hw0 => ?_⟩
        rcases List.mem_cons.1 hw with g | g
        · subst g; exact Int.le_refl _
        · have h1 := Int.mul_le_mul_of_nonneg_right hv.2 (Int.le_of_lt hw0)
          have h2 := Int.mul_le_mul_of_nonneg_left (hmin w g hw0) (Int.le_of_lt hv.1)
          have e1 : q m * (p v * q w) = p v * q m * q w := by grind
          have e2 : p m * q v * q w = q v * (p m * q w) := by grind
          have e3 : q m * (p w * q v) = q v * (p w * q m) := by grind
          exact le_of_mul hq (by omega)
      · refine ⟨m, List.mem_cons_of_mem _ hm, hq, fun w hw hw0 => ?_⟩
        rcases List.mem_cons.1 hw with g | g
        · subst g
          have : ¬ p w * q m ≤ p m * q w := fun k => hv ⟨hw0, k⟩
          omega
        · exact hmin w g hw0
    · obtain ⟨w, hw, hw0⟩ := h
      have e : w = v := by
        rcases List.mem_cons.1 hw with g | g
        · exact g
        · exact absurd ⟨w, g, hw0⟩ hV
      subst e
      refine ⟨w, List.mem_cons_self .., hw0, fun y hy hy0 => ?_⟩
      rcases List.mem_cons.1 hy with g | g
      · subst g; exact Int.le_refl _
      · exact absurd ⟨y, g, hy0⟩ hV
theorem ray_half (V : List (Int × Int)) (d1 d2 c1 c2 w1 w2 : Int) (hd : ∀ v ∈ V, 0 ≤ d1 * v.1 + d2 * v.2) (hc : 0 < c1 * d1 + c2 * d2) (hw : c1 * w1 + c2 * w2 = 0) (h : ∃ v ∈ V, 0 < -(w1 * v.1 + w2 * v.2)) :
    ∃ v ∈ V, ∃ n1 n2 : Int, ((n1 = -v.2 ∧ n2 = v.1) ∨ (n1 = v.2 ∧ n2 = -v.1)) ∧ (∀ v' ∈ V, 0 ≤ n1 * v'.1 + n2 * v'.2) ∧ 0 < c1 * n1 + c2 * n2 := by
  obtain ⟨v, hv, hq, hmin⟩ := least_ratio (fun v => d1 * v.1 + d2 * v.2) (fun v => -(w1 * v.1 + w2 * v.2)) V h
  obtain ⟨x, y⟩ := v
  simp only at hq hmin
  -- the ray m on which v's constraint is met
  obtain ⟨q, hqe⟩ : ∃ q, -(w1 * x + w2 * y) = q := ⟨_, rfl⟩
  obtain ⟨p, hpe⟩ : ∃ p, d1 * x + d2 * y = p := ⟨_, rfl⟩
  have hp0 : 0 ≤ p := by have := hd _ hv; simp only at this; omega
  rw [hqe] at hq
  have hmv : (q * d1 + p * w1) * x + (q * d2 + p * w2) * y = 0 := by rw [← hqe, ← hpe]; grind
  have hmc : c1 * (q * d1 + p * w1) + c2 * (q * d2 + p * w2) = q * (c1 * d1 + c2 * d2) := by
    have : c1 * (q * d1 + p * w1) + c2 * (q * d2 + p * w2) = q * (c1 * d1 + c2 * d2) + p * (c1 * w1 + c2 * w2) := by grind
    rw [this, hw]; omega
  have hmc0 := Int.mul_pos hq hc
  rw [← hmc] at hmc0
  have hmK : ∀ v' ∈ V, 0 ≤ (q * d1 + p * w1) * v'.1 + (q * d2 + p * w2) * v'.2 := by
    intro v' hv'
    have e : (q * d1 + p * w1) * v'.1 + (q * d2 + p * w2) * v'.2 = q * (d1 * v'.1 + d2 * v'.2) + p * (w1 * v'.1 + w2 * v'.2) := by grind
    rw [e]
    rcases Int.lt_or_le (w1 * v'.1 + w2 * v'.2) 0 with g | g
    · have := hmin v' hv' (by omega)
      rw [hpe, hqe, Int.mul_neg] at this
      have e2 : (d1 * v'.1 + d2 * v'.2) * q = q * (d1 * v'.1 + d2 * v'.2) := Int.mul_comm ..
      omega
    · have a1 := Int.mul_nonneg (Int.le_of_lt hq) (hd v' hv')
      have a2 := Int.mul_nonneg hp0 g
      omega
  generalize q * d1 + p * w1 = m1 at *
  generalize q * d2 + p * w2 = m2 at *
  -- m is a multiple of v's normal
  have lam : ∀ a b : Int, (x * x + y * y) * (m1 * a + m2 * b) = (m2 * x - m1 * y) * (x * b - y * a) := by
    intro a b
    have : (x * x + y * y) * (m1 * a + m2 * b) = (m2 * x - m1 * y) * (x * b - y * a) + (m1 * x + m2 * y) * (x * a + y * b) := by grind
    rw [this, hmv]; omega
  have sq : 0 < x * x + y * y := by
    have h1 : 0 ≤ x * x := by rcases Int.le_total 0 x with g | g; exact Int.mul_nonneg g g; exact Int.mul_nonneg_of_nonpos_of_nonpos g g
    have h2 : 0 ≤ y * y := by rcases Int.le_total 0 y with g | g; exact Int.mul_nonneg g g; exact Int.mul_nonneg_of_nonpos_of_nonpos g g
    rcases Int.lt_or_le 0 (x * x + y * y) with g | g
    · exact g
    · have e1 : x = 0 := by have := Int.mul_eq_zero.1 (show x * x = 0 by omega); omega
      have e2 : y = 0 := by have := Int.mul_eq_zero.1 (show y * y = 0 by omega); omega
      subst e1 e2
      omega
  have l0 := lam c1 c2
  have l1 : 0 < (x * x + y * y) * (m1 * c1 + m2 * c2) := Int.mul_pos sq (by rw [Int.mul_comm m1, Int.mul_comm m2]; exact hmc0)
  rw [l0] at l1
  rcases Int.lt_trichotomy (m2 * x - m1 * y) 0 with g | g | g
  · refine ⟨_, hv, y, -x, .inr ⟨rfl, rfl⟩, fun v' hv' => ?_, ?_⟩
    · have k := Int.mul_nonneg (Int.le_of_lt sq) (hmK v' hv')
      rw [lam] at k
      have : 0 ≤ -(m2 * x - m1 * y) * (y * v'.1 + -x * v'.2) := by
        have e : -(m2 * x - m1 * y) * (y * v'.1 + -x * v'.2) = (m2 * x - m1 * y) * (x * v'.2 - y * v'.1) := by grind
        omega
      exact nn_of_mul (by omega) this
    · have : 0 < -(m2 * x - m1 * y) * (c1 * y + c2 * -x) := by
        have e : -(m2 * x - m1 * y) * (c1 * y + c2 * -x) = (m2 * x - m1 * y) * (x * c2 - y * c1) := by grind
        omega
      exact pos_of_mul (by omega) this
  · rw [g, Int.zero_mul] at l1; omega
  · refine ⟨_, hv, -y, x, .inl ⟨rfl, rfl⟩, fun v' hv' => ?_, ?_⟩
    · have k := Int.mul_nonneg (Int.le_of_lt sq) (hmK v' hv')
      rw [lam] at k
      have e : x * v'.2 - y * v'.1 = -y * v'.1 + x * v'.2 := by grind
      rw [e] at k
      exact nn_of_mul g k
    · have e : x * c2 - y * c1 = c1 * -y + c2 * x := by grind
      rw [e] at l1
      exact pos_of_mul g l1
theorem ray (V : List (Int × Int)) (d1 d2 c1 c2 : Int) (hd : ∀ v ∈ V, 0 ≤ d1 * v.1 + d2 * v.2) (hc : 0 < c1 * d1 + c2 * d2) :
    (∃ v ∈ V, ∃ n1 n2 : Int, ((n1 = -v.2 ∧ n2 = v.1) ∨ (n1 = v.2 ∧ n2 = -v.1)) ∧ (∀ v' ∈ V, 0 ≤ n1 * v'.1 + n2 * v'.2) ∧ 0 < c1 * n1 + c2 * n2) ∨ (∀ v ∈ V, c1 * v.2 - c2 * v.1 = 0) := by
  by_cases h1 : ∃ v ∈ V, 0 < -((-c2) * v.1 + c1 * v.2)
  · exact .inl (ray_half V d1 d2 c1 c2 _ _ hd hc (by grind) h1)
  · by_cases h2 : ∃ v ∈ V, 0 < -(c2 * v.1 + (-c1) * v.2)
    · exact .inl (ray_half V d1 d2 c1 c2 _ _ hd hc (by grind) h2)
    · right
      intro v hv
      have a1 : ¬ 0 < -((-c2) * v.1 + c1 * v.2) := fun g => h1 ⟨v, hv, g⟩
      have a2 : ¬ 0 < -(c2 * v.1 + (-c1) * v.2) := fun g => h2 ⟨v, hv, g⟩
      rw [Int.neg_mul] at a1 a2
      omega
theorem argmax (f : α → Int) : ∀ l : List α, 0 < l.length → ∃ (i : Nat) (hi : i < l.length), ∀ w ∈ l, f w ≤ f l[i]
  | [], h => absurd h (by simp)
  | [x], _ => ⟨0, by simp, by simp⟩
  | x :: y :: r, _ => by
    obtain ⟨i, hi, h⟩ := argmax f (y :: r) (by simp)
    rcases Int.le_total (f x) (f (y :: r)[i]) with g | g
    · refine ⟨i + 1, by simpa using hi, fun w hw => ?_⟩
      rcases List.mem_cons.1 hw with k | k
      · subst k; simpa using g
      · simpa using h w k
    · refine ⟨0, by simp, fun w hw => ?_⟩
      rcases List.mem_cons.1 hw with k | k
      · subst k; simp
      · exact Int.le_trans (h w k) (by simpa using g)
theorem next_ex {n i : Nat} (h : i < n) : ∃ j, j < n ∧ Next n i j := by
  rcases Nat.lt_or_ge (i + 1) n with g | g
  · exact ⟨i + 1, g, .inl rfl⟩
  · exact ⟨0, by omega, .inr ⟨by omega, rfl⟩⟩
theorem prev_ex {n i : Nat} (h : i < n) : ∃ j, j < n ∧ Next n j i := by
  rcases Nat.eq_zero_or_pos i with g | g
  · subst g; exact ⟨n - 1, by omega, .inr ⟨by omega, rfl⟩⟩
  · exact ⟨i - 1, by omega, .inl (by omega)⟩
theorem IsH.max {h : List α} (H : IsH X Y h h) {j i k : Nat} (hj : j < h.length) (hi : i < h.length) (hk : k < h.length) (n1 : Next h.length j i) (n2 : Next h.length i k) (u v : Int)
    (h1 : 0 ≤ u * (X h[i] - X h[j]) + v * (Y h[i] - Y h[j])) (h2 : u * (X h[k] - X h[i]) + v * (Y h[k] - Y h[i]) ≤ 0) : ∀ w ∈ h, dt X Y u v w ≤ dt X Y u v h[i] := by
  intro w hw
  by_cases c : 3 ≤ h.length
  · have T := H.turn c j i k hj hi hk n1 n2
    have l1 := H.left j i hj hi n1 w hw
    have l2 := H.left i k hi hk n2 w hw
    have e : cr X Y h[j] h[i] h[k] * (dt X Y u v w - dt X Y u v h[i]) = cr X Y h[j] h[i] w * (u * (X h[k] - X h[i]) + v * (Y h[k] - Y h[i])) - cr X Y h[i] h[k] w * (u * (X h[i] - X h[j]) + v * (Y h[i] - Y h[j])) := by unfold cr dt; grind
    have a1 := Int.mul_nonneg l2 h1
    have a2 := Int.mul_nonneg l1 (show 0 ≤ -(u * (X h[k] - X h[i]) + v * (Y h[k] - Y h[i])) by omega)
    rw [Int.mul_neg] at a2
    have a3 : 0 ≤ cr X Y h[j] h[i] h[k] * (dt X Y u v h[i] - dt X Y u v w) := by
      have e2 : cr X Y h[j] h[i] h[k] * (dt X Y u v h[i] - dt X Y u v w) = -(cr X Y h[j] h[i] h[k] * (dt X Y u v w - dt X Y u v h[i])) := by grind
      omega
    have := nn_of_mul T a3
    omega
  · obtain ⟨l, hl, rfl⟩ := List.getElem_of_mem hw
    by_cases e : l = i
    · subst e; exact Int.le_refl _
    · have e : l = j := by unfold Next at *; omega
      subst e
      unfold dt; rw [Int.mul_sub, Int.mul_sub] at h1; omega
theorem cross_zero {p1 p2 q1 q2 c1 c2 : Int} (h1 : c1 * p2 - c2 * p1 = 0) (h2 : c1 * q2 - c2 * q1 = 0) (h : 0 < p1 * q2 - p2 * q1) : c1 = 0 ∧ c2 = 0 := by
  have e1 : (p1 * q2 - p2 * q1) * c1 = (c1 * q2 - c2 * q1) * p1 - (c1 * p2 - c2 * p1) * q1 := by grind
  have e2 : (p1 * q2 - p2 * q1) * c2 = (c1 * q2 - c2 * q1) * p2 - (c1 * p2 - c2 * p1) * q2 := by grind
  rw [h1, h2, Int.zero_mul, Int.zero_mul] at e1 e2
  have f1 := Int.mul_eq_zero.1 e1
  have f2 := Int.mul_eq_zero.1 e2
  omega
theorem sq_pos {x y : Int} (h : x ≠ 0 ∨ y ≠ 0) : 0 < x * x + y * y := by
  have h1 : 0 ≤ x * x := by rcases Int.le_total 0 x with g | g; exact Int.mul_nonneg g g; exact Int.mul_nonneg_of_nonpos_of_nonpos g g
  have h2 : 0 ≤ y * y := by rcases Int.le_total 0 y with g | g; exact Int.mul_nonneg g g; exact Int.mul_nonneg_of_nonpos_of_nonpos g g
  rcases Int.lt_or_le 0 (x * x + y * y) with g | g
  · exact g
  · exfalso
    have e1 : x = 0 := by have := Int.mul_eq_zero.1 (show x * x = 0 by omega); omega
    have e2 : y = 0 := by have := Int.mul_eq_zero.1 (show y * y = 0 by omega); omega
    omega
set_option maxHeartbeats 1000000 in
theorem sat {A B : List α} (hinj : ∀ p q : α, X p = X q → Y p = Y q → p = q) (HA : IsH X Y A A) (HB : IsH X Y B B) {u v : Int} (h : Sep X Y u v A B) :
    ∃ u' v', Sep X Y u' v' A B ∧ (DirOf X Y A u' v' ∨ DirOf X Y B u' v' ∨ (u' = X (B[0]'HB.ne) - X (A[0]'HA.ne) ∧ v' = Y (B[0]'HB.ne) - Y (A[0]'HA.ne))) := by
  obtain ⟨i, hi, hmax⟩ := argmax (dt X Y u v) A HA.ne
  obtain ⟨m, hm, hmin⟩ := argmax (fun p => - dt X Y u v p) B HB.ne
  obtain ⟨j, hj, nj⟩ := prev_ex hi
  obtain ⟨k, hk, nk⟩ := next_ex hi
  obtain ⟨l, hl, nl⟩ := prev_ex hm
  obtain ⟨r, hr, nr⟩ := next_ex hm
  have hcd : 0 < (X B[m] - X A[i]) * u + (Y B[m] - Y A[i]) * v := by
    have := h A[i] (List.getElem_mem _) B[m] (List.getElem_mem _)
    unfold dt at this
    rw [Int.sub_mul, Int.sub_mul, Int.mul_comm (X B[m]), Int.mul_comm (X A[i]), Int.mul_comm (Y B[m]), Int.mul_comm (Y A[i])]
    omega
  -- a direction that keeps both corners uppermost, and that goes from the one to the other
  have sepK : ∀ a b : Int, 0 ≤ a * (X A[i] - X A[j]) + b * (Y A[i] - Y A[j]) → 0 ≤ a * -(X A[k] - X A[i]) + b * -(Y A[k] - Y A[i]) → 0 ≤ a * -(X B[m] - X B[l]) + b * -(Y B[m] - Y B[l]) → 0 ≤ a * (X B[r] - X B[m]) + b * (Y B[r] - Y B[m]) →
      0 < (X B[m] - X A[i]) * a + (Y B[m] - Y A[i]) * b → Sep X Y a b A B := by
    intro a b k1 k2 k3 k4 k5 p hp q hq
    have s1 := HA.max hj hi hk nj nk a b k1 (by rw [Int.mul_neg, Int.mul_neg] at k2; omega) p hp
    have s2 := HB.max hl hm hr nl nr (-a) (-b) (by rw [Int.mul_neg, Int.mul_neg] at k3; rw [Int.neg_mul, Int.neg_mul]; omega) (by rw [Int.neg_mul, Int.neg_mul]; omega) q hq
    have s3 : dt X Y a b A[i] < dt X Y a b B[m] := by
      unfold dt
      rw [Int.sub_mul, Int.sub_mul, Int.mul_comm (X B[m]), Int.mul_comm (X A[i]), Int.mul_comm (Y B[m]), Int.mul_comm (Y A[i])] at k5
      omega
    unfold dt at *
    simp only [Int.neg_mul] at s2
    omega
  have hd : ∀ w ∈ [(X A[i] - X A[j], Y A[i] - Y A[j]), (-(X A[k] - X A[i]), -(Y A[k] - Y A[i])), (-(X B[m] - X B[l]), -(Y B[m] - Y B[l])), (X B[r] - X B[m], Y B[r] - Y B[m])], 0 ≤ u * w.1 + v * w.2 := by
    have g1 := hmax A[j] (List.getElem_mem _)
    have g2 := hmax A[k] (List.getElem_mem _)
    have g3 := hmin B[l] (List.getElem_mem _)
    have g4 := hmin B[r] (List.getElem_mem _)
    unfold dt at g1 g2 g3 g4
    intro w hw
    simp only [List.mem_cons, List.not_mem_nil, or_false] at hw
    rcases hw with rfl | rfl | rfl | rfl <;> simp only [Int.mul_sub, Int.mul_neg] <;> omega
  rcases ray _ u v _ _ hd hcd with ⟨w, hw, n1, n2, hn, hK, hc⟩ | hpar
  · have s := sepK n1 n2 (hK (X A[i] - X A[j], Y A[i] - Y A[j]) (by simp)) (hK (-(X A[k] - X A[i]), -(Y A[k] - Y A[i])) (by simp)) (hK (-(X B[m] - X B[l]), -(Y B[m] - Y B[l])) (by simp)) (hK (X B[r] - X B[m], Y B[r] - Y B[m]) (by simp)) hc
    refine ⟨n1, n2, s, ?_⟩
    simp only [List.mem_cons, List.not_mem_nil, or_false] at hw
    rcases hw with rfl | rfl | rfl | rfl
    · refine .inl ⟨j, i, hj, hi, nj, ?_⟩
      simp only at hn
      omega
    · refine .inl ⟨i, k, hi, hk, nk, ?_⟩
      simp only at hn
      omega
    · refine .inr (.inl ⟨l, m, hl, hm, nl, ?_⟩)
      simp only at hn
      omega
    · refine .inr (.inl ⟨m, r, hm, hr, nr, ?_⟩)
      simp only at hn
      omega
  · have p1 := hpar (X A[i] - X A[j], Y A[i] - Y A[j]) (by simp)
    have p2 := hpar (-(X A[k] - X A[i]), -(Y A[k] - Y A[i])) (by simp)
    have p3 := hpar (-(X B[m] - X B[l]), -(Y B[m] - Y B[l])) (by simp)
    have p4 := hpar (X B[r] - X B[m], Y B[r] - Y B[m]) (by simp)
    simp only at p1 p2 p3 p4
    obtain ⟨c1, e1⟩ : ∃ c, X B[m] - X A[i] = c := ⟨_, rfl⟩
    obtain ⟨c2, e2⟩ : ∃ c, Y B[m] - Y A[i] = c := ⟨_, rfl⟩
    rw [e1, e2] at p1 p2 p3 p4 hcd
    have hc0 : c1 ≠ 0 ∨ c2 ≠ 0 := by
      by_cases g : c1 = 0
      · by_cases g2 : c2 = 0
        · rw [g, g2] at hcd; omega
        · exact .inr g2
      · exact .inl g
    have hsq := sq_pos hc0
    -- c itself keeps both corners uppermost
    have hcv : ∀ w ∈ [(X A[i] - X A[j], Y A[i] - Y A[j]), (-(X A[k] - X A[i]), -(Y A[k] - Y A[i])), (-(X B[m] - X B[l]), -(Y B[m] - Y B[l])), (X B[r] - X B[m], Y B[r] - Y B[m])], 0 ≤ c1 * w.1 + c2 * w.2 := by
      intro w hw
      have k1 := hd w hw
      have k2 := hpar w hw
      rw [e1, e2] at k2
      have k3 := Int.mul_nonneg (Int.le_of_lt hsq) k1
      have e : (c1 * c1 + c2 * c2) * (u * w.1 + v * w.2) = (c1 * u + c2 * v) * (c1 * w.1 + c2 * w.2) + (c1 * v - c2 * u) * (c1 * w.2 - c2 * w.1) := by grind
      rw [e, k2, Int.mul_zero, Int.add_zero] at k3
      exact nn_of_mul hcd k3
    have s := sepK c1 c2 (hcv (X A[i] - X A[j], Y A[i] - Y A[j]) (by simp)) (hcv (-(X A[k] - X A[i]), -(Y A[k] - Y A[i])) (by simp)) (hcv (-(X B[m] - X B[l]), -(Y B[m] - Y B[l])) (by simp)) (hcv (X B[r] - X B[m], Y B[r] - Y B[m]) (by simp)) (by rw [e1, e2]; exact hsq)
    -- a direction along c parts them too
    have along : ∀ a b : Int, c1 * b - c2 * a = 0 → 0 ≤ c1 * a + c2 * b → (a ≠ 0 ∨ b ≠ 0) → Sep X Y a b A B := by
      intro a b k1 k2 k3 p hp q hq
      have hs := s p hp q hq
      have sq2 := sq_pos k3
      have k4 : 0 < c1 * a + c2 * b := by
        have e : (c1 * c1 + c2 * c2) * (a * a + b * b) = (c1 * a + c2 * b) * (c1 * a + c2 * b) + (c1 * b - c2 * a) * (c1 * b - c2 * a) := by grind
        have g := Int.mul_pos hsq sq2
        rw [e, k1, Int.zero_mul, Int.add_zero] at g
        rcases Int.lt_or_le 0 (c1 * a + c2 * b) with q | q
        · exact q
        · have : c1 * a + c2 * b = 0 := by omega
          rw [this] at g; omega
      have e : (c1 * c1 + c2 * c2) * (dt X Y a b q - dt X Y a b p) = (c1 * a + c2 * b) * (dt X Y c1 c2 q - dt X Y c1 c2 p) + (c1 * b - c2 * a) * (c1 * (Y q - Y p) - c2 * (X q - X p)) := by unfold dt; grind
      rw [k1, Int.zero_mul, Int.add_zero] at e
      have g := Int.mul_pos k4 (show 0 < dt X Y c1 c2 q - dt X Y c1 c2 p by omega)
      rw [← e] at g
      have := pos_of_mul hsq g
      omega
    by_cases a3 : 3 ≤ A.length
    · exfalso
      have T := HA.turn a3 j i k hj hi hk nj nk
      have := cross_zero (p1 := X A[i] - X A[j]) (p2 := Y A[i] - Y A[j]) (q1 := X A[k] - X A[i]) (q2 := Y A[k] - Y A[i]) (c1 := c1) (c2 := c2) p1 (by rw [Int.mul_neg, Int.mul_neg] at p2; omega) (by unfold cr at T; grind)
      omega
    · by_cases b3 : 3 ≤ B.length
      · exfalso
        have T := HB.turn b3 l m r hl hm hr nl nr
        have := cross_zero (p1 := X B[m] - X B[l]) (p2 := Y B[m] - Y B[l]) (q1 := X B[r] - X B[m]) (q2 := Y B[r] - Y B[m]) (c1 := c1) (c2 := c2) (by rw [Int.mul_neg, Int.mul_neg] at p3; omega) p4 (by unfold cr at T; grind)
        omega
      · by_cases a2 : A.length = 2
        · have hne : A[i] ≠ A[j] := fun e => by
            have := (List.getElem_inj HA.nodup).1 e
            unfold Next at nj; omega
          refine ⟨X A[i] - X A[j], Y A[i] - Y A[j], along _ _ p1 (hcv (X A[i] - X A[j], Y A[i] - Y A[j]) (by simp)) ?_, .inl ⟨j, i, hj, hi, nj, .inr (.inr (.inl ⟨rfl, rfl⟩))⟩⟩
          refine Classical.byContradiction fun g => hne (hinj _ _ ?_ ?_) <;> omega
        · by_cases b2 : B.length = 2
          · have hne : B[m] ≠ B[l] := fun e => by
              have := (List.getElem_inj HB.nodup).1 e
              unfold Next at nl; omega
            refine ⟨-(X B[m] - X B[l]), -(Y B[m] - Y B[l]), along _ _ p3 (hcv (-(X B[m] - X B[l]), -(Y B[m] - Y B[l])) (by simp)) ?_, .inr (.inl ⟨l, m, hl, hm, nl, .inr (.inr (.inr ⟨rfl, rfl⟩))⟩)⟩
            refine Classical.byContradiction fun g => hne (hinj _ _ ?_ ?_) <;> omega
          · have i0 : i = 0 := by omega
            have m0 : m = 0 := by omega
            subst i0 m0
            exact ⟨c1, c2, s, .inr (.inr ⟨e1.symm, e2.symm⟩)⟩
end
end Geo
set_option linter.unusedSectionVars false
set_option linter.unusedVariables false
namespace Geo
section
variable {α : Type} [DecidableEq α] (X Y : α → Int)
def ltb (a b : α) : Bool := decide (X a < X b) || (decide (X a = X b) && decide (Y a < Y b))
def ins (x : α) : List α → List α
  | [] => [x]
  | y :: ys => if ltb X Y y x = true then y :: ins x ys else if y = x then y :: ys else x :: y :: ys
def sd (l : List α) : List α := l.foldl (fun s x => ins X Y x s) []
variable {X Y}
theorem ltb_iff {a b : α} : ltb X Y a b = true ↔ lt X Y a b := by
  rw [lt_iff]; simp [ltb]
theorem ltb_false {a b : α} : ltb X Y a b = false ↔ ¬ lt X Y a b := by
  rw [← ltb_iff]; simp
theorem ins_mem {x z : α} : ∀ {s : List α}, z ∈ ins X Y x s ↔ z = x ∨ z ∈ s
  | [] => by simp [ins]
  | y :: ys => by
    unfold ins
    split
    · rw [List.mem_cons, ins_mem (s := ys), List.mem_cons]; grind
    · split
      · rename_i e; subst e; simp
      · simp
theorem ins_sorted (hinj : ∀ p q : α, X p = X q → Y p = Y q → p = q) {x : α} : ∀ {s : List α}, s.Pairwise (lt X Y) → (ins X Y x s).Pairwise (lt X Y)
  | [], _ => by simp [ins]
  | y :: ys, h => by
    have h' := List.pairwise_cons.1 h
    unfold ins
    split
    · rename_i g
      refine List.pairwise_cons.2 ⟨fun z hz => ?_, ins_sorted hinj h'.2⟩
      rcases ins_mem.1 hz with e | e
      · subst e; exact ltb_iff.1 g
      · exact h'.1 z e
    · rename_i g
      split
      · exact h
      · rename_i e
        have hxy : lt X Y x y := by
          have g' : ¬ lt X Y y x := fun k => g (ltb_iff.2 k)
          rcases Classical.em (lt X Y x y) with k | k
          · exact k
          · have := lt_total g' k; exact absurd (hinj _ _ this.1 this.2) e
        refine List.pairwise_cons.2 ⟨fun z hz => ?_, h⟩
        rcases List.mem_cons.1 hz with e | e
        · subst e; exact hxy
        · exact hxy.trans (h'.1 z e)
theorem foldl_ins_mem {z : α} : ∀ (l s : List α), z ∈ l.foldl (fun s x => ins X Y x s) s ↔ z ∈ s ∨ z ∈ l
  | [], s => by simp
  | x :: l, s => by rw [List.foldl_cons, foldl_ins_mem l, ins_mem]; simp; grind
theorem foldl_ins_sorted (hinj : ∀ p q : α, X p = X q → Y p = Y q → p = q) : ∀ (l s : List α), s.Pairwise (lt X Y) → (l.foldl (fun s x => ins X Y x s) s).Pairwise (lt X Y)
  | [], s, h => h
  | x :: l, s, h => foldl_ins_sorted hinj l _ (ins_sorted hinj h)
theorem sd_mem {z : α} {l : List α} : z ∈ sd X Y l ↔ z ∈ l := by unfold sd; rw [foldl_ins_mem]; simp
theorem sd_sorted (hinj : ∀ p q : α, X p = X q → Y p = Y q → p = q) (l : List α) : (sd X Y l).Pairwise (lt X Y) := foldl_ins_sorted hinj l [] (by simp)
theorem sd_unique (hinj : ∀ p q : α, X p = X q → Y p = Y q → p = q) {l s : List α} (hs : s.Pairwise (lt X Y)) (h : ∀ z, z ∈ s ↔ z ∈ l) : s = sd X Y l :=
  sorted_ext (fun _ => lt.irrefl) (fun _ _ => lt.asymm) _ _ hs (sd_sorted hinj l) fun z => (h z).trans sd_mem.symm
theorem sd_ne {l : List α} (h : l ≠ []) : sd X Y l ≠ [] := by
  cases l with
  | nil => exact absurd rfl h
  | cons x r => intro e; have := sd_mem (X := X) (Y := Y) (z := x) (l := x :: r); rw [e] at this; simp at this
theorem ins_length {x : α} : ∀ {s : List α}, (ins X Y x s).length ≤ s.length + 1
  | [] => by simp [ins]
  | y :: ys => by
    unfold ins
    split
    · have := ins_length (x := x) (s := ys); simp; omega
    · split <;> simp
theorem foldl_ins_length : ∀ (l s : List α), (l.foldl (fun s x => ins X Y x s) s).length ≤ s.length + l.length
  | [], s => by simp
  | x :: l, s => by
    rw [List.foldl_cons]
    have := foldl_ins_length l (ins X Y x s)
    have := ins_length (X := X) (Y := Y) (x := x) (s := s)
    simp; omega
theorem sd_length (l : List α) : (sd X Y l).length ≤ l.length := by have := foldl_ins_length (X := X) (Y := Y) l []; simpa [sd] using this
def cstep (acc : List α) (x : α) : List α := if acc.getLast? = some x then acc else acc ++ [x]
def comp (l : List α) : List α := l.foldl cstep []
theorem comp_snoc (l : List α) (x : α) : comp (l ++ [x]) = cstep (comp l) x := by simp [comp]
theorem cstep_last (acc : List α) (x : α) : (cstep acc x).getLast? = some x := by
  unfold cstep; split
  · assumption
  · simp
theorem comp_last (l : List α) : (comp l).getLast? = l.getLast? := by
  rcases List.eq_nil_or_concat l with h | ⟨r, x, h⟩
  · subst h; rfl
  · rw [List.concat_eq_append] at h; subst h; rw [comp_snoc, cstep_last]; simp
theorem cstep_mem {acc : List α} {x z : α} : z ∈ cstep acc x ↔ z ∈ acc ∨ z = x := by
  unfold cstep; split
  · rename_i h
    have : x ∈ acc := List.mem_of_getLast? h
    constructor
    · exact .inl
    · rintro (k | k)
      · exact k
      · subst k; exact this
  · simp
theorem foldl_cstep_mem {z : α} : ∀ (l acc : List α), z ∈ l.foldl cstep acc ↔ z ∈ acc ∨ z ∈ l
  | [], s => by simp
  | x :: l, s => by rw [List.foldl_cons, foldl_cstep_mem l, cstep_mem]; simp; grind
theorem comp_mem {l : List α} {z : α} : z ∈ comp l ↔ z ∈ l := by unfold comp; rw [foldl_cstep_mem]; simp
theorem foldl_cstep_sorted (hinj : ∀ p q : α, X p = X q → Y p = Y q → p = q) : ∀ (l acc : List α), acc.Pairwise (lt X Y) → (∀ a ∈ acc, ∀ b ∈ l, ¬ lt X Y b a) → l.Pairwise (fun a b => ¬ lt X Y b a) → (l.foldl cstep acc).Pairwise (lt X Y)
  | [], acc, h, _, _ => h
  | x :: l, acc, h, h1, h2 => by
    rw [List.foldl_cons]
    have h2' := List.pairwise_cons.1 h2
    refine foldl_cstep_sorted hinj l _ ?_ ?_ h2'.2
    · unfold cstep
      split
      · exact h
      · rename_i g
        refine List.pairwise_append.2 ⟨h, by simp, fun a ha b hb => ?_⟩
        obtain rfl : b = x := by simpa using hb
        have k1 := h1 a ha b (List.mem_cons_self ..)
        rcases Classical.em (lt X Y a b) with k | k
        · exact k
        · have e := lt_total k k1
          have e := hinj _ _ e.1 e.2
          subst e
          -- a is in acc, but is not the last one: then the last one is not below it
          rcases List.eq_nil_or_concat acc with h3 | ⟨r, y, h3⟩
          · subst h3; simp at ha
          · rw [List.concat_eq_append] at h3
            subst h3
            simp at g
            have hy : y ∈ r ++ [y] := by simp
            have k2 := h1 y hy a (List.mem_cons_self ..)
            rcases List.mem_append.1 ha with hr | hr
            · exact absurd ((List.pairwise_append.1 h).2.2 a hr y (by simp)) k2
            · exact absurd (by simpa using hr : a = y).symm g
    · intro a ha b hb
      rcases cstep_mem.1 ha with k | k
      · exact h1 a k b (List.mem_cons_of_mem _ hb)
      · subst k; exact h2'.1 b hb
theorem comp_sorted (hinj : ∀ p q : α, X p = X q → Y p = Y q → p = q) {l : List α} (h : l.Pairwise (fun a b => ¬ lt X Y b a)) : (comp l).Pairwise (lt X Y) :=
  foldl_cstep_sorted hinj l [] (by simp) (by simp) h
theorem comp_sd (hinj : ∀ p q : α, X p = X q → Y p = Y q → p = q) {l m : List α} (h : l.Pairwise (fun a b => ¬ lt X Y b a)) (hm : ∀ z, z ∈ l ↔ z ∈ m) : comp l = sd X Y m :=
  sd_unique hinj (comp_sorted hinj h) fun z => comp_mem.trans (hm z)
end
end Geo
namespace Go.Proofs.Ytegdcnjjelgpjaa.P
open Go.RowKit Go.Shelf Go.Proofs.Ytegdcnjjelgpjaa.O Go.Proofs.YtegdcnjjelgpjaaW.PrintWords Go.Proofs.YtegdcnjjelgpjaaW.PrintLast Go.Proofs.YtegdcnjjelgpjaaW.PrintMore
attribute [local go_sem] Oper.semAt_some
set_option linter.unusedVariables false
set_option linter.unusedSimpArgs false
theorem wpOpIn_not {F : Fence} {n : Nat} {P : Program} {ops : Array Oper} {Q : Exit → Act → World → Prop} {i : Nat} {o : Oper} {a : Act} {w : World} {K : Act → World → Prop} (ho : ops[i]? = some o) (hw : Region.wanted o (yielded ops a.tmps) = false) (h1 : ∀ f, o.about P w a.eval = some f → F.fn f) (h : K (a.put o.dst undef) w) : wpOpIn F n P ops Q i K a w := by
  unfold wpOpIn; simp only [ho, hw, Bool.false_eq_true, if_false]; exact ⟨h1, h⟩
def DropFn (g : Nat) (bad : S23 → S23 → S23 → Bool) : Prop :=
  (∀ args w, (callFunc g args).run Try.prog w = .ok (.enter g args) w) ∧ ∀ a b c W, Calls Try.prog g #[.agg #[.int .i64 a.f0, .int .i64 a.f1], .agg #[.int .i64 b.f0, .int .i64 b.f1], .agg #[.int .i64 c.f0, .int .i64 c.f1]] W fun e W' => e = .returned (.bool (bad a b c)) ∧ Below W.heap.size W W'
theorem chain_snoc (bad : S23 → S23 → S23 → Bool) (x : S23) : ∀ (l st : List S23), Geo.chain bad (l ++ [x]) st = x :: Geo.pop bad x (Geo.chain bad l st)
  | [], st => rfl
  | y :: l, st => by rw [List.cons_append, Geo.chain, chain_snoc bad x l, Geo.chain]
theorem pop_len (bad : S23 → S23 → S23 → Bool) (x : S23) (st : List S23) : (Geo.pop bad x st).length ≤ st.length := (Geo.pop_sub bad x st).length_le
theorem chain_len (bad : S23 → S23 → S23 → Bool) : ∀ (l st : List S23), (Geo.chain bad l st).length ≤ l.length + st.length
  | [], st => by simp [Geo.chain]
  | y :: l, st => by
    rw [Geo.chain]
    have := chain_len bad l (y :: Geo.pop bad y st)
    have := pop_len bad y st
    simp at *; omega
def outLen (B : Nat) (W : World) : Nat := match W.cell? ⟨B, 0, none⟩ with
  | some (.slice _ n _) => n
  | _ => 0
structure SInv (bad : S23 → S23 → S23 → Bool) (df B D Bx : Nat) (w0 V : World) (x : S23) (st0 st : List S23) (W : World) : Prop where
  pop : Geo.pop bad x st = Geo.pop bad x st0
  len : st.length ≤ st0.length
  out : ∃ v, W.heap[B + 1]? = some (.cells #[v] 53 (0, 0)) ∧ OutV W (D + 2) v st.reverse ∧ ∀ k, v.ownBlock = some k → k ≠ Bx
  hd : W.heap[B]? = some (.cells #[.func (.func df) #[] #[]] 118 (0, 0))
  hx : W.heap[Bx]? = some (.cells #[.int .i64 x.f0, .int .i64 x.f1] 23 (0, 0))
  below : Below B w0 W
  recs : Recs D V W
  size : D + 2 ≤ W.heap.size
  vb : Below B V W
theorem SInv.step {bad : S23 → S23 → S23 → Bool} {df B D Bx : Nat} {w0 V : World} {x : S23} {st0 st : List S23} {W W1 : World} (h : SInv bad df B D Bx w0 V x st0 st W) (hB : B + 2 = D) (hb : Below W.heap.size W W1) : SInv bad df B D Bx w0 V x st0 st W1 := by
  obtain ⟨v, h1, h2, h3⟩ := h.out
  have hs := h.size
  have hz := hb.size
  exact ⟨h.pop, h.len, ⟨v, keep_below hb (blk_lt h1) h1, h2.block fun k hk => hb.block k (h2.lt k hk).1, h3⟩, keep_below hb (blk_lt h.hd) h.hd, keep_below hb (blk_lt h.hx) h.hx, h.below.trans (hb.mono (by omega)), h.recs.trans (Recs.below hb hs), by omega, h.vb.trans (hb.mono (by omega))⟩
theorem SInv.put {bad : S23 → S23 → S23 → Bool} {df B D Bx : Nat} {w0 V : World} {x : S23} {st0 st st1 : List S23} {W : World} (h : SInv bad df B D Bx w0 V x st0 st W) (hB : B + 2 = D) (hx : B + 2 ≤ Bx) (v1 : Value) (hp : Geo.pop bad x st1 = Geo.pop bad x st0) (hl : st1.length ≤ st0.length)
    (ho : OutV W (D + 2) v1 st1.reverse) (hk : ∀ k, v1.ownBlock = some k → k ≠ Bx) : SInv bad df B D Bx w0 V x st0 st1 (W.setCell ⟨B + 1, 0, none⟩ v1) := by
  obtain ⟨v, h1, h2, h3⟩ := h.out
  have hs := h.size
  have far : ∀ k, k ≠ B + 1 → (W.setCell ⟨B + 1, 0, none⟩ v1).heap[k]? = W.heap[k]? := fun k hk => Below.heap_setCell _ _ _ _ hk
  have hbb : Below B W (W.setCell ⟨B + 1, 0, none⟩ v1) := (Below.refl B W).setCell (p := ⟨B + 1, 0, none⟩) (by simp) _
  exact ⟨hp, hl, ⟨v1, blk_set h1 0 v1, ho.block fun k hk => far k (by have := (ho.lt k hk).2; omega), hk⟩, (far _ (by omega)).trans h.hd, (far _ (by omega)).trans h.hx, h.below.trans hbb, h.recs.trans (Recs.setCell _ _ _ (by simp; omega) (by simp; omega)), by rw [World.size_setCell]; omega, h.vb.trans hbb⟩
theorem SInv.push {bad : S23 → S23 → S23 → Bool} {df B D Bx : Nat} {w0 V : World} {x : S23} {st0 st : List S23} {W W2 : World} {v v' : Value} (h : SInv bad df B D Bx w0 V x st0 st W) (hB : B + 2 = D) (hv : W.heap[B + 1]? = some (.cells #[v] 53 (0, 0)))
    (hg : W.grownBy W2 v.ownBlock) (ho2 : OutV W2 (D + 2) v' (st.reverse ++ [x])) :
    Below B V (W2.setCell ⟨B + 1, 0, none⟩ v') ∧ Recs D V (W2.setCell ⟨B + 1, 0, none⟩ v') ∧ (Below B w0 (W2.setCell ⟨B + 1, 0, none⟩ v') ∧ D ≤ (W2.setCell ⟨B + 1, 0, none⟩ v').heap.size ∧ (W2.setCell ⟨B + 1, 0, none⟩ v').heap[B]? = some (.cells #[.func (.func df) #[] #[]] 118 (0, 0)) ∧
      ∃ v1, (W2.setCell ⟨B + 1, 0, none⟩ v').heap[B + 1]? = some (.cells #[v1] 53 (0, 0)) ∧ OutV (W2.setCell ⟨B + 1, 0, none⟩ v') (D + 2) v1 (x :: st).reverse) := by
  obtain ⟨v0, h1, h2, h3⟩ := h.out
  obtain rfl : v0 = v := by
    have e := h1.symm.trans hv
    simp only [Option.some.injEq, Obj.cells.injEq, Array.mk.injEq, List.cons.injEq, and_true] at e
    exact e
  have hrow : ∀ k, v0.ownBlock = some k → D + 2 ≤ k := fun k hk => (h2.lt k hk).2
  have hs := h.size
  have hz := hg.size
  have far : ∀ k, k ≠ B + 1 → (W2.setCell ⟨B + 1, 0, none⟩ v').heap[k]? = W2.heap[k]? := fun k hk => Below.heap_setCell _ _ _ _ hk
  have hbb : Below B W2 (W2.setCell ⟨B + 1, 0, none⟩ v') := (Below.refl B W2).setCell (p := ⟨B + 1, 0, none⟩) (by simp) _
  have hgb : Below B W W2 := (Below.refl B W).grown hg (by omega) fun k hk => by have := hrow k hk; omega
  have hlt1 := blk_lt h1
  have b1 : W2.heap[B + 1]? = some (.cells #[v0] 53 (0, 0)) := (hg.block _ hlt1 fun e => by have := hrow _ e.symm; omega).trans h1
  refine ⟨(h.vb.trans hgb).trans hbb, (h.recs.trans (Recs.grown hg hs (fun e => by have := hrow _ e.symm; omega) (fun e => by have := hrow _ e.symm; omega))).trans (Recs.setCell _ _ _ (by simp; omega) (by simp; omega)), (h.below.trans hgb).trans hbb, by rw [World.size_setCell]; omega, ?_, v', blk_set b1 0 v', ?_⟩
  · rw [far _ (by omega)]
    exact (hg.block _ (blk_lt h.hd) fun e => by have := hrow _ e.symm; omega).trans h.hd
  · rw [List.reverse_cons]
    exact ho2.block fun k hk => far k (by have := (ho2.lt k hk).2; omega)
set_option maxRecDepth 100000 in
set_option maxHeartbeats 4000000 in
theorem stack_in (gf df : Nat) (lb : Array Value) (L : List S23) (bad : S23 → S23 → S23 → Bool) (w0 : World)
    (hg : ∀ args w, (callFunc gf args).run Try.prog w = .ok (.enter gf args) w) (hseq : SeqS Try.prog gf lb ptV L w0) (hd : DropFn df bad) (hL : L.length < 8796093022208) :
    CallsIn Fence.wide 0 Try.prog 113 #[.func (.func gf) #[] lb, .func (.func df) #[] #[]] w0 fun e W' => ∃ v, e = .returned v ∧ OutV W' w0.heap.size v (Geo.chain bad L []).reverse ∧ Below w0.heap.size w0 W' := by
  have hu23 := Try.underlying23
  obtain ⟨w1, hw1⟩ : ∃ w1, (w0.alloc (.cells #[.func (.func df) #[] #[]] 118 (0, 0))).alloc (.cells #[.slice none 0 0] 53 (0, 0)) = w1 := ⟨_, rfl⟩
  have hb1 : Below w0.heap.size w0 w1 := by rw [← hw1]; exact ((Below.refl _ _).alloc (Nat.le_refl _) _).alloc (by simp) _
  have hz1 : w1.heap.size = w0.heap.size + 2 := by rw [← hw1]; simp
  have h1 : w1.heap[w0.heap.size]? = some (.cells #[.func (.func df) #[] #[]] 118 (0, 0)) := by rw [← hw1]; exact blk_alloc (blk_new _ _) _
  have h2 : w1.heap[w0.heap.size + 1]? = some (.cells #[.slice none 0 0] 53 (0, 0)) := by
    rw [← hw1]; have := blk_new (w0.alloc (.cells #[.func (.func df) #[] #[]] 118 (0, 0))) (.cells #[.slice none 0 0] 53 (0, 0)); rwa [World.size_alloc] at this
  refine callsIn_of_wp_marks Try.func113 rfl trivial ?_ rfl
  simp only [Try.ntmps113, List.size_toArray, List.length_cons, List.length_nil, Nat.reduceAdd, Nat.reduceSub, Array.replicate_succ, Array.replicate_zero, List.push_toArray, List.append_toArray, List.nil_append, List.cons_append]
  gi_wp2
  obtain ⟨D, hD⟩ : ∃ D, w1.heap.size = D := ⟨_, rfl⟩
  refine wpIn_rangeFunc_S (gf := gf) (lb := lb) rfl hg (encs := ptV) (L := L) (w0 := w0) hseq hb1 (fun _ => rfl)
    (fun pre V => Below w0.heap.size w0 V ∧ w1.heap.size ≤ V.heap.size ∧ V.heap[w0.heap.size]? = some (.cells #[.func (.func df) #[] #[]] 118 (0, 0)) ∧ ∃ v, V.heap[w0.heap.size + 1]? = some (.cells #[v] 53 (0, 0)) ∧ OutV V (w1.heap.size + 2) v (Geo.chain bad pre []).reverse)
    (fun _ _ => False) ?hI (fun _ _ _ h _ => h.elim) ?hIp (fun _ _ _ _ h _ => h.elim) ⟨hb1, Nat.le_refl _, h1, _, h2, .inl ⟨rfl, rfl⟩⟩
    (fun x a' V => ∃ Bx, w1.heap.size + 2 ≤ Bx ∧ V.heap[Bx]? = some (.cells #[.int .i64 x.f0, .int .i64 x.f1] 23 (0, 0)) ∧ (∀ v, V.heap[w0.heap.size + 1]? = some (.cells #[v] 53 (0, 0)) → ∀ k, v.ownBlock = some k → k ≠ Bx) ∧ a' = { tmps := (.func (.func gf) #[] lb :: .func (.func df) #[] #[] :: undef :: .pointer (some ⟨w0.heap.size, 0, none⟩) :: .slice none 0 0 :: .pointer (some ⟨w0.heap.size + 1, 0, none⟩) :: .pointer (some ⟨Bx, 0, none⟩) :: .func (.func gf) #[] lb :: .agg #[.int .i64 x.f0, .int .i64 x.f1] :: undef :: undef :: undef :: undef :: undef :: undef :: undef :: undef :: undef :: undef :: undef :: undef :: undef :: undef :: undef :: undef :: undef :: undef :: undef :: undef :: undef :: undef :: undef :: undef :: undef :: undef :: undef :: undef :: undef :: undef :: []).toArray, defers := [] })
    ?hAx ?assign ?body ?done ?stop
  case hI =>
    rintro s A B ⟨g1, g2, g3, v, g4, g5⟩ hb
    have := hb.size
    exact ⟨g1.trans (hb.mono (by omega)), by omega, keep_below hb (by omega) g3, v, keep_below hb (by omega) g4, g5.block fun k hk => hb.block k (g5.lt k hk).1⟩
  case hIp =>
    rintro s W o r ⟨g1, g2, g3, v, g4, g5⟩ hr
    exact ⟨g1.trans (below_putObj _ _ (by omega)), by simpa using g2, (World.putObj_heap_other (by omega)).trans g3, v, (World.putObj_heap_other (by omega)).trans g4, g5.block fun k hk => World.putObj_heap_other (by have := (g5.lt k hk).2; omega)⟩
  case hAx =>
    rintro x a' V r o ⟨Bx, hB, hx, hne, rfl⟩ hr
    exact ⟨Bx, hB, (World.putObj_heap_other (by omega)).trans hx, fun v hv => hne v ((World.putObj_heap_other (by omega)).symm.trans hv), rfl⟩
  case assign =>
    rintro l' pre x V K ⟨g1, g2, g3, v, g4, g5⟩ hpre hz hK
    dsimp only [ptV]
    gi_wp2
    refine hK _ _ ((Below.refl _ _).alloc (Nat.le_refl _) _) ⟨V.heap.size, hz, blk_new _ _, fun v' hv' k hk => ?_, rfl⟩
    have e := (blk_alloc g4 _).symm.trans hv'
    simp only [Option.some.injEq, Obj.cells.injEq, Array.mk.injEq, List.cons.injEq, and_true] at e
    subst e
    have := (g5.lt k hk).1
    omega
  case body =>
    rintro l' pre x a' V ⟨g1, g2, g3, v0, g4, g5⟩ hpre hz ⟨Bx, hBx, hx, hne, rfl⟩
    have hlen := hpre.length_le
    have hcl := chain_len bad pre []
    rw [List.length_append, List.length_singleton] at hlen
    have hsnoc := chain_snoc bad x pre []
    obtain ⟨st0, hst0⟩ : ∃ s, Geo.chain bad pre [] = s := ⟨_, rfl⟩
    rw [hst0] at hsnoc g5 hcl
    have hpl := pop_len bad x st0
    have hS0 : SInv bad df w0.heap.size w1.heap.size Bx w0 V x st0 st0 V := ⟨rfl, Nat.le_refl _, ⟨v0, g4, g5, hne v0 g4⟩, g3, hx, g1, Recs.refl _ _, hz, Below.refl _ _⟩
    have HSN := Aside0.mk hsnoc
    have HPL := Aside0.mk (show (Geo.pop bad x st0).length + 1 ≤ 8796093022208 by simp at hcl; omega)
    clear hst0 hcl hsnoc hpl hlen g1 g2 g3 g4 g5 hx hne hpre h1 h2
    gi_wp2
    gi_loopw [9] (fun _ wr => ∃ st, Aside0 (SInv bad df w0.heap.size w1.heap.size Bx w0 V x st0 st wr)) (fun _ wr => outLen (w0.heap.size + 1) wr)
    case atStart => exact ⟨st0, ⟨hS0⟩⟩
    case round =>
      obtain ⟨st, hS⟩ := hrel
      obtain ⟨v, k1, ho, hk⟩ := hS.out.out
      have k2 := hS.out.hd
      have kx := hS.out.hx
      have c1 := (blk_cell k1 0).trans (rfl : _ = some v)
      have K1 := Aside0.mk k1
      have K2 := Aside0.mk k2
      have KX := Aside0.mk kx
      clear k1 k2 kx hk
      by_cases hshort : st.length < 2
      · obtain ⟨sa, n, cap, rfl, hn⟩ : ∃ sa n cap, v = .slice sa n cap ∧ n < 2 := by
          rcases ho with ⟨rfl, _⟩ | ⟨g, cap, rfl, _⟩
          · exact ⟨none, 0, 0, rfl, by omega⟩
          · exact ⟨_, _, cap, rfl, by simpa using hshort⟩
        have hpop : Geo.pop bad x st = st := by
          match st, hshort with
          | [], _ => rfl
          | [_], _ => rfl
          | _ :: _ :: _, h => simp at h; omega
        have g2 : ¬ (2 : Int) ≤ (n : Int) := by omega
        have g3 : decide ((2 : Int) ≤ (n : Int)) = false := decide_eq_false g2
        have g4 : decide (2 ≤ n) = false := decide_eq_false (by omega)
        have g5 : n < 2 := hn
        clear ho
        gi_wp2
        refine wpIn_region_any (by kernel_rfl) ?_
        change wpAnyIn _ _ _ _ _ _ _ _ _ (World.drew wr)
        refine wpAnyIn_inv (fun listed a V' => a = { tmps := (.func (.func gf) #[] lb :: .func (.func df) #[] #[] :: undef :: .pointer (some ⟨w0.heap.size, 0, none⟩) :: .slice none 0 0 :: .pointer (some ⟨w0.heap.size + 1, 0, none⟩) :: .pointer (some ⟨Bx, 0, none⟩) :: .func (.func gf) #[] lb :: .agg #[.int .i64 x.f0, .int .i64 x.f1] :: selOr listed 0 (.slice sa n cap) u9 :: selOr listed 1 (.int .i64 (n : Int)) u10 :: selOr listed 2 (.bool false) u11 :: selOr listed 3 (.bool false) u12 :: selOr listed 4 (undef) u13 :: selOr listed 5 (undef) u14 :: selOr listed 6 (undef) u15 :: selOr listed 7 (undef) u16 :: selOr listed 8 (undef) u17 :: selOr listed 9 (undef) u18 :: selOr listed 10 (undef) u19 :: selOr listed 11 (undef) u20 :: selOr listed 12 (undef) u21 :: selOr listed 13 (undef) u22 :: selOr listed 14 (undef) u23 :: selOr listed 15 (undef) u24 :: selOr listed 16 (undef) u25 :: selOr listed 17 (undef) u26 :: selOr listed 18 (undef) u27 :: selOr listed 19 (.bool false) u28 :: u29 :: u30 :: u31 :: u32 :: u33 :: undef :: undef :: undef :: undef :: undef :: []).toArray, defers := [] } ∧ Below wr.heap.size wr V') 27 ?stepq ?stopq ?finq 20 _ _ _ (by simp) (closed_none _) ⟨by simp [selOr], (Below.refl _ _).drew⟩ (by simp)
        case stopq =>
          intro listed a V' fuel hs hc hi hr
          have := (ready_lt hr).1
          simp at hs
          omega
        case stepq =>
          rintro listed a V' i hs hc ⟨rfl, q1⟩ hr hne K hK
          obtain ⟨hlt', hl0⟩ := ready_lt hr
          have cc1 := (q1.cell (p := ⟨w0.heap.size + 1, 0, none⟩) (blk_lt K1.out)).trans c1
          clear c1
          have hi : i = 0 ∨ i = 1 ∨ i = 2 ∨ i = 3 ∨ i = 4 ∨ i = 5 ∨ i = 6 ∨ i = 7 ∨ i = 8 ∨ i = 9 ∨ i = 10 ∨ i = 11 ∨ i = 12 ∨ i = 13 ∨ i = 14 ∨ i = 15 ∨ i = 16 ∨ i = 17 ∨ i = 18 ∨ i = 19 := by simp at hs; omega
          rcases hi with rfl | rfl | rfl | rfl | rfl | rfl | rfl | rfl | rfl | rfl | rfl | rfl | rfl | rfl | rfl | rfl | rfl | rfl | rfl | rfl
          · skip
            refine wpOpIn_of rfl rfl ?_
            clear hr hl0
            gi_wp2
            refine ⟨?_, q1⟩
            simp (disch := decide) only [selOr_same hlt', selOr_other hlt']
          · have d0 : listed.getD 0 false = true := ready_after hr rfl { on := 0, ground := .data } (by simp) rfl
            simp only [selOr_on d0]
            refine wpOpIn_of rfl rfl ?_
            clear hr hl0
            gi_wp2
            refine ⟨?_, q1⟩
            simp (disch := decide) only [selOr_same hlt', selOr_other hlt', selOr_on d0]
          · have d1 : listed.getD 1 false = true := ready_after hr rfl { on := 1, ground := .data } (by simp) rfl
            simp only [selOr_on d1]
            refine wpOpIn_of rfl rfl ?_
            clear hr hl0
            gi_wp2
            refine ⟨?_, q1⟩
            simp (disch := decide) only [selOr_same hlt', selOr_other hlt', selOr_on d1]
          · have d2 : listed.getD 2 false = true := ready_after hr rfl { on := 2, ground := .data } (by simp) rfl
            simp only [selOr_on d2]
            refine wpOpIn_of rfl rfl ?_
            clear hr hl0
            gi_wp2
            refine ⟨?_, q1⟩
            simp (disch := decide) only [selOr_same hlt', selOr_other hlt', selOr_on d2]
          · have d3 : listed.getD 3 false = true := ready_after hr rfl { on := 3, ground := .guard } (by simp) rfl
            simp only [selOr_on d3]
            refine wpOpIn_not rfl rfl (fun _ _ => trivial) (hK _ _ ⟨?_, q1⟩)
            show Act.put _ (some 13) _ = _
            simp only [Act.put, List.setIfInBounds_toArray, List.set_cons_zero, List.set_cons_succ]
            simp (disch := decide) only [selOr_same hlt', selOr_other hlt', selOr_on d3]
          · have d3 : listed.getD 3 false = true := ready_after hr rfl { on := 3, ground := .guard } (by simp) rfl
            simp only [selOr_on d3]
            refine wpOpIn_not rfl rfl (fun _ _ => trivial) (hK _ _ ⟨?_, q1⟩)
            show Act.put _ (some 14) _ = _
            simp only [Act.put, List.setIfInBounds_toArray, List.set_cons_zero, List.set_cons_succ]
            simp (disch := decide) only [selOr_same hlt', selOr_other hlt', selOr_on d3]
          · have d3 : listed.getD 3 false = true := ready_after hr rfl { on := 3, ground := .guard } (by simp) rfl
            simp only [selOr_on d3]
            refine wpOpIn_not rfl rfl (fun _ _ => trivial) (hK _ _ ⟨?_, q1⟩)
            show Act.put _ (some 15) _ = _
            simp only [Act.put, List.setIfInBounds_toArray, List.set_cons_zero, List.set_cons_succ]
            simp (disch := decide) only [selOr_same hlt', selOr_other hlt', selOr_on d3]
          · have d3 : listed.getD 3 false = true := ready_after hr rfl { on := 3, ground := .guard } (by simp) rfl
            simp only [selOr_on d3]
            refine wpOpIn_not rfl rfl (fun _ _ => trivial) (hK _ _ ⟨?_, q1⟩)
            show Act.put _ (some 16) _ = _
            simp only [Act.put, List.setIfInBounds_toArray, List.set_cons_zero, List.set_cons_succ]
            simp (disch := decide) only [selOr_same hlt', selOr_other hlt', selOr_on d3]
          · have d3 : listed.getD 3 false = true := ready_after hr rfl { on := 3, ground := .guard } (by simp) rfl
            simp only [selOr_on d3]
            refine wpOpIn_not rfl rfl (fun _ _ => trivial) (hK _ _ ⟨?_, q1⟩)
            show Act.put _ (some 17) _ = _
            simp only [Act.put, List.setIfInBounds_toArray, List.set_cons_zero, List.set_cons_succ]
            simp (disch := decide) only [selOr_same hlt', selOr_other hlt', selOr_on d3]
          · have d3 : listed.getD 3 false = true := ready_after hr rfl { on := 3, ground := .guard } (by simp) rfl
            simp only [selOr_on d3]
            refine wpOpIn_not rfl rfl (fun _ _ => trivial) (hK _ _ ⟨?_, q1⟩)
            show Act.put _ (some 18) _ = _
            simp only [Act.put, List.setIfInBounds_toArray, List.set_cons_zero, List.set_cons_succ]
            simp (disch := decide) only [selOr_same hlt', selOr_other hlt', selOr_on d3]
          · have d3 : listed.getD 3 false = true := ready_after hr rfl { on := 3, ground := .guard } (by simp) rfl
            simp only [selOr_on d3]
            refine wpOpIn_not rfl rfl (fun _ _ => trivial) (hK _ _ ⟨?_, q1⟩)
            show Act.put _ (some 19) _ = _
            simp only [Act.put, List.setIfInBounds_toArray, List.set_cons_zero, List.set_cons_succ]
            simp (disch := decide) only [selOr_same hlt', selOr_other hlt', selOr_on d3]
          · have d3 : listed.getD 3 false = true := ready_after hr rfl { on := 3, ground := .guard } (by simp) rfl
            simp only [selOr_on d3]
            refine wpOpIn_not rfl rfl (fun _ _ => trivial) (hK _ _ ⟨?_, q1⟩)
            show Act.put _ (some 20) _ = _
            simp only [Act.put, List.setIfInBounds_toArray, List.set_cons_zero, List.set_cons_succ]
            simp (disch := decide) only [selOr_same hlt', selOr_other hlt', selOr_on d3]
          · have d3 : listed.getD 3 false = true := ready_after hr rfl { on := 3, ground := .guard } (by simp) rfl
            simp only [selOr_on d3]
            refine wpOpIn_not rfl rfl (fun _ _ => trivial) (hK _ _ ⟨?_, q1⟩)
            show Act.put _ (some 21) _ = _
            simp only [Act.put, List.setIfInBounds_toArray, List.set_cons_zero, List.set_cons_succ]
            simp (disch := decide) only [selOr_same hlt', selOr_other hlt', selOr_on d3]
          · have d3 : listed.getD 3 false = true := ready_after hr rfl { on := 3, ground := .guard } (by simp) rfl
            simp only [selOr_on d3]
            refine wpOpIn_not rfl rfl (fun _ _ => trivial) (hK _ _ ⟨?_, q1⟩)
            show Act.put _ (some 22) _ = _
            simp only [Act.put, List.setIfInBounds_toArray, List.set_cons_zero, List.set_cons_succ]
            simp (disch := decide) only [selOr_same hlt', selOr_other hlt', selOr_on d3]
          · have d3 : listed.getD 3 false = true := ready_after hr rfl { on := 3, ground := .guard } (by simp) rfl
            simp only [selOr_on d3]
            refine wpOpIn_not rfl rfl (fun _ _ => trivial) (hK _ _ ⟨?_, q1⟩)
            show Act.put _ (some 23) _ = _
            simp only [Act.put, List.setIfInBounds_toArray, List.set_cons_zero, List.set_cons_succ]
            simp (disch := decide) only [selOr_same hlt', selOr_other hlt', selOr_on d3]
          · have d3 : listed.getD 3 false = true := ready_after hr rfl { on := 3, ground := .guard } (by simp) rfl
            simp only [selOr_on d3]
            refine wpOpIn_not rfl rfl (fun _ _ => trivial) (hK _ _ ⟨?_, q1⟩)
            show Act.put _ (some 24) _ = _
            simp only [Act.put, List.setIfInBounds_toArray, List.set_cons_zero, List.set_cons_succ]
            simp (disch := decide) only [selOr_same hlt', selOr_other hlt', selOr_on d3]
          · have d3 : listed.getD 3 false = true := ready_after hr rfl { on := 3, ground := .guard } (by simp) rfl
            simp only [selOr_on d3]
            refine wpOpIn_not rfl rfl (fun _ _ => trivial) (hK _ _ ⟨?_, q1⟩)
            show Act.put _ (some 25) _ = _
            simp only [Act.put, List.setIfInBounds_toArray, List.set_cons_zero, List.set_cons_succ]
            simp (disch := decide) only [selOr_same hlt', selOr_other hlt', selOr_on d3]
          · have d3 : listed.getD 3 false = true := ready_after hr rfl { on := 3, ground := .guard } (by simp) rfl
            simp only [selOr_on d3]
            refine wpOpIn_not rfl rfl (fun _ _ => trivial) (hK _ _ ⟨?_, q1⟩)
            show Act.put _ (some 26) _ = _
            simp only [Act.put, List.setIfInBounds_toArray, List.set_cons_zero, List.set_cons_succ]
            simp (disch := decide) only [selOr_same hlt', selOr_other hlt', selOr_on d3]
          · have d3 : listed.getD 3 false = true := ready_after hr rfl { on := 3, ground := .guard } (by simp) rfl
            simp only [selOr_on d3]
            refine wpOpIn_not rfl rfl (fun _ _ => trivial) (hK _ _ ⟨?_, q1⟩)
            show Act.put _ (some 27) _ = _
            simp only [Act.put, List.setIfInBounds_toArray, List.set_cons_zero, List.set_cons_succ]
            simp (disch := decide) only [selOr_same hlt', selOr_other hlt', selOr_on d3]
          · have d3 : listed.getD 3 false = true := ready_after hr rfl { on := 3, ground := .data } (by simp) rfl
            have d18 : listed.getD 18 false = true := ready_after hr rfl { on := 18, ground := .data } (by simp) rfl
            simp only [selOr_on d3, selOr_on d18]
            refine wpOpIn_of rfl rfl ?_
            clear hr hl0
            gi_wp2
            refine ⟨?_, q1⟩
            simp (disch := decide) only [selOr_same hlt', selOr_other hlt', selOr_on d3, selOr_on d18]
        case finq =>
          rintro listed a V' hs ⟨rfl, q1⟩ hr
          have all : ∀ j, j < 20 → listed.getD j false = true := fun j hj => by
            cases q : listed.getD j false
            · exact absurd hr (ready_ne hs (by kernel_rfl) j (by simpa using hj) q)
            · rfl
          simp only [selOr_on (all 0 (by decide)), selOr_on (all 1 (by decide)), selOr_on (all 2 (by decide)), selOr_on (all 3 (by decide)), selOr_on (all 4 (by decide)), selOr_on (all 5 (by decide)), selOr_on (all 6 (by decide)), selOr_on (all 7 (by decide)), selOr_on (all 8 (by decide)), selOr_on (all 9 (by decide)), selOr_on (all 10 (by decide)), selOr_on (all 11 (by decide)), selOr_on (all 12 (by decide)), selOr_on (all 13 (by decide)), selOr_on (all 14 (by decide)), selOr_on (all 15 (by decide)), selOr_on (all 16 (by decide)), selOr_on (all 17 (by decide)), selOr_on (all 18 (by decide)), selOr_on (all 19 (by decide))]
          clear all hr hs
          have HQ1 := Aside0.mk q1
          have hS1 := hS.out.step (by omega) q1
          clear q1 hS
          have hbase : w1.heap.size + 2 ≤ V'.heap.size := hS1.size
          obtain ⟨v1, k1', ho1, hne1⟩ := hS1.out
          obtain rfl : v1 = .slice sa n cap := by
            have e := ((HQ1.out.block _ (blk_lt K1.out)).trans K1.out).symm.trans k1'
            simp only [Option.some.injEq, Obj.cells.injEq, Array.mk.injEq, List.cons.injEq, and_true] at e
            exact e.symm
          have co := (blk_cell k1' 0).trans (rfl : _ = some (Value.slice sa n cap))
          have ⟨y0, y1⟩ : V'.cell? ⟨Bx, 0, none⟩ = some (.int .i64 x.f0) ∧ V'.cell? ⟨Bx, 1, none⟩ = some (.int .i64 x.f1) := ⟨(blk_cell hS1.hx 0).trans rfl, (blk_cell hS1.hx 1).trans rfl⟩
          have hS2 := hS1.step (by omega) ((Below.refl _ _).alloc (Nat.le_refl _) (.cells #[.int .i64 x.f0, .int .i64 x.f1] 23 (0, 0)))
          have ho2 : OutV (V'.alloc (.cells #[.int .i64 x.f0, .int .i64 x.f1] 23 (0, 0))) (w1.heap.size + 2) (.slice sa n cap) st.reverse := ho1.block fun k hk => Below.heap_alloc _ _ _ (ho1.lt k hk).1
          have kx := blk_new V' (.cells #[.int .i64 x.f0, .int .i64 x.f1] 23 (0, 0))
          have kv := blk_alloc k1' (.cells #[.int .i64 x.f0, .int .i64 x.f1] 23 (0, 0))
          have fx := blk_frozen k1' 0
          have HS2 := Aside0.mk hS2
          have HO2 := Aside0.mk ho2
          have HKX := Aside0.mk kx
          have HKV := Aside0.mk kv
          have HLN := Aside0.mk (show st.reverse.length + 1 ≤ 8796093022208 by rw [List.length_reverse, ← hpop]; have := HPL.out; rw [← hS1.pop] at this; exact this)
          have HCH := Aside0.mk (show Geo.chain bad (pre ++ [x]) [] = x :: st by rw [HSN.out, ← hS1.pop, hpop])
          clear hS1 k1' ho1 hne1 hS2 ho2 kx kv hpop
          gi_wp2_with (gi_at_builtin; refine wpListIn_append_pt _ rfl _ _ rfl (w1.heap.size + 2) _ st.reverse rfl HO2.out V'.heap.size 1 x rfl ((blk_cell HKX.out 0).trans rfl) ((blk_cell HKX.out 1).trans rfl) HLN.out ?qb ?_)
          case qb => rw [World.size_alloc]; omega
          intro v' W2 ho3 hg3 _
          obtain ⟨A', ln, c', hform⟩ : ∃ A n c, v' = .slice A n c := by obtain ⟨A, c, e⟩ := ho3.form; exact ⟨A, _, c, e⟩
          subst hform
          have ho3' : OutV W2 (w1.heap.size + 2) (.slice A' ln c') (st.reverse ++ [x]) := by rw [hz1]; simpa using ho3
          have HF := HS2.out.push (by omega) HKV.out hg3 ho3'
          have cB : W2.cell? ⟨w0.heap.size + 1, 0, none⟩ = some (.slice sa n cap) := (blk_cell ((hg3.block _ (blk_lt HKV.out) fun e => by have := (HO2.out.lt _ e.symm).2; omega).trans HKV.out) 0).trans rfl
          have fB : W2.frozen? ⟨w0.heap.size + 1, 0, none⟩ = false := blk_frozen ((hg3.block _ (blk_lt HKV.out) fun e => by have := (HO2.out.lt _ e.symm).2; omega).trans HKV.out) 0
          have HF' := Aside0.mk HF
          clear HF hg3 ho3 ho3'
          gi_wp2
          dsimp only [postS]
          rw [HCH.out]
          exact HF'.out
      · obtain ⟨yb, ya, r, rfl⟩ : ∃ yb ya r, st = yb :: ya :: r := by
          match st, hshort with
          | [], h => simp at h
          | [_], h => simp at h
          | b :: a :: r, _ => exact ⟨b, a, r, rfl⟩
        clear hshort
        rcases ho with ⟨_, h⟩ | ⟨g, cap, rfl, hgb, hrow⟩
        · simp at h
        have hrl := hrow.le
        have e1 : (yb :: ya :: r).reverse = r.reverse ++ [ya, yb] := by simp
        have ea := hrow.cell r.length (by simp)
        have eb := hrow.cell (r.length + 1) (by simp)
        have ga : (yb :: ya :: r).reverse[r.length]'(by simp) = ya := by simp [e1]
        have gb : (yb :: ya :: r).reverse[r.length + 1]'(by simp) = yb := by simp [e1]
        rw [ga] at ea
        rw [gb] at eb
        clear ga gb e1
        obtain ⟨p, hp⟩ : ∃ p, r.length = p := ⟨_, rfl⟩
        obtain ⟨q, hq⟩ : ∃ q, p + 1 = q := ⟨_, rfl⟩
        obtain ⟨n, hn⟩ : ∃ n, (yb :: ya :: r).reverse.length = n := ⟨_, rfl⟩
        have hnq : n = q + 1 := by rw [← hn, ← hq, ← hp]; simp
        rw [hp] at ea eb
        rw [hq] at eb
        rw [hn] at c1 K1
        have hrl' : n ≤ cap ∧ cap ≤ maxLen := by rw [← hn]; exact hrl
        replace hrl := hrl'
        clear hrl'
        obtain ⟨a0, a1⟩ := ea
        obtain ⟨b0, b1⟩ := eb
        have x0 : wr.cell? ⟨Bx, 0, none⟩ = some (.int .i64 x.f0) := (blk_cell KX.out 0).trans rfl
        have x1 : wr.cell? ⟨Bx, 1, none⟩ = some (.int .i64 x.f1) := (blk_cell KX.out 1).trans rfl
        have c2 : wr.cell? ⟨w0.heap.size, 0, none⟩ = some (.func (.func df) #[] #[]) := (blk_cell K2.out 0).trans rfl
        have hm := hrl.2
        unfold maxLen at hm
        have w2 : IntKind.i64.wrap ((n : Int) - 2) = (p : Int) := by rw [i64_w]; unfold wrap64; omega
        have w3 : IntKind.i64.wrap ((n : Int) - 1) = (q : Int) := by rw [i64_w]; unfold wrap64; omega
        have w4 : wrap64 ((n : Int) - 1) = (q : Int) := by unfold wrap64; omega
        have g2 : (2 : Int) ≤ (n : Int) := by omega
        have g3 : decide ((2 : Int) ≤ (n : Int)) = true := decide_eq_true g2
        have g4 : decide (2 ≤ n) = true := decide_eq_true (by omega)
        have g5 : 2 ≤ n := by omega
        have l1 : p < n := by omega
        have l2 : q < n := by omega
        have l3 : q ≤ cap := by omega
        have he := hd.1
        have KR := Aside0.mk hrow
        have HN := Aside0.mk (And.intro hn (And.intro hp (And.intro hq (And.intro hnq (And.intro hgb hrl)))))
        clear hrow hn hp hq hnq hgb hrl hm
        gi_wp2
        refine wpIn_region_any (by kernel_rfl) ?_
        change wpAnyIn _ _ _ _ _ _ _ _ _ (World.drew wr)
        refine wpAnyIn_inv (fun listed a V' => a = { tmps := (.func (.func gf) #[] lb :: .func (.func df) #[] #[] :: undef :: .pointer (some ⟨w0.heap.size, 0, none⟩) :: .slice none 0 0 :: .pointer (some ⟨w0.heap.size + 1, 0, none⟩) :: .pointer (some ⟨Bx, 0, none⟩) :: .func (.func gf) #[] lb :: .agg #[.int .i64 x.f0, .int .i64 x.f1] :: selOr listed 0 (.slice (some ⟨g, 0, none⟩) n cap) u9 :: selOr listed 1 (.int .i64 (n : Int)) u10 :: selOr listed 2 (.bool true) u11 :: selOr listed 3 (.bool true) u12 :: selOr listed 4 (.func (.func df) #[] #[]) u13 :: selOr listed 5 (.slice (some ⟨g, 0, none⟩) n cap) u14 :: selOr listed 6 (.slice (some ⟨g, 0, none⟩) n cap) u15 :: selOr listed 7 (.int .i64 (n : Int)) u16 :: selOr listed 8 (.int .i64 (p : Int)) u17 :: selOr listed 9 (.pointer (some ⟨g, p * 2, none⟩)) u18 :: selOr listed 10 (.agg #[.int .i64 ya.f0, .int .i64 ya.f1]) u19 :: selOr listed 11 (.slice (some ⟨g, 0, none⟩) n cap) u20 :: selOr listed 12 (.slice (some ⟨g, 0, none⟩) n cap) u21 :: selOr listed 13 (.int .i64 (n : Int)) u22 :: selOr listed 14 (.int .i64 (q : Int)) u23 :: selOr listed 15 (.pointer (some ⟨g, q * 2, none⟩)) u24 :: selOr listed 16 (.agg #[.int .i64 yb.f0, .int .i64 yb.f1]) u25 :: selOr listed 17 (.agg #[.int .i64 x.f0, .int .i64 x.f1]) u26 :: selOr listed 18 (.bool (bad ya yb x)) u27 :: selOr listed 19 (.bool (bad ya yb x)) u28 :: u29 :: u30 :: u31 :: u32 :: u33 :: undef :: undef :: undef :: undef :: undef :: []).toArray, defers := [] } ∧ Below wr.heap.size wr V') 27 ?stepq ?stopq ?finq 20 _ _ _ (by simp) (closed_none _) ⟨by simp [selOr], (Below.refl _ _).drew⟩ (by simp)
        case stopq =>
          intro listed a V' fuel hs hc hi hr
          have := (ready_lt hr).1
          simp at hs
          omega
        case stepq =>
          rintro listed a V' i hs hc ⟨rfl, q1⟩ hr hne K hK
          obtain ⟨hlt', hl0⟩ := ready_lt hr
          have cc1 := (q1.cell (p := ⟨w0.heap.size + 1, 0, none⟩) (blk_lt K1.out)).trans c1
          have cc2 := (q1.cell (p := ⟨w0.heap.size, 0, none⟩) (blk_lt K2.out)).trans c2
          have cx0 := (q1.cell (p := ⟨Bx, 0, none⟩) (blk_lt KX.out)).trans x0
          have cx1 := (q1.cell (p := ⟨Bx, 1, none⟩) (blk_lt KX.out)).trans x1
          have ca0 := (q1.cell (p := ⟨g, p * 2, none⟩) KR.out.lt).trans a0
          have ca1 := (q1.cell (p := ⟨g, p * 2 + 1, none⟩) KR.out.lt).trans a1
          have cb0 := (q1.cell (p := ⟨g, q * 2, none⟩) KR.out.lt).trans b0
          have cb1 := (q1.cell (p := ⟨g, q * 2 + 1, none⟩) KR.out.lt).trans b1
          clear c1 c2 x0 x1 a0 a1 b0 b1
          have hi : i = 0 ∨ i = 1 ∨ i = 2 ∨ i = 3 ∨ i = 4 ∨ i = 5 ∨ i = 6 ∨ i = 7 ∨ i = 8 ∨ i = 9 ∨ i = 10 ∨ i = 11 ∨ i = 12 ∨ i = 13 ∨ i = 14 ∨ i = 15 ∨ i = 16 ∨ i = 17 ∨ i = 18 ∨ i = 19 := by simp at hs; omega
          rcases hi with rfl | rfl | rfl | rfl | rfl | rfl | rfl | rfl | rfl | rfl | rfl | rfl | rfl | rfl | rfl | rfl | rfl | rfl | rfl | rfl
          · skip
            refine wpOpIn_of rfl rfl ?_
            clear hr hl0
            gi_wp2
            refine ⟨?_, q1⟩
            simp (disch := decide) only [selOr_same hlt', selOr_other hlt']
          · have d0 : listed.getD 0 false = true := ready_after hr rfl { on := 0, ground := .data } (by simp) rfl
            simp only [selOr_on d0]
            refine wpOpIn_of rfl rfl ?_
            clear hr hl0
            gi_wp2
            refine ⟨?_, q1⟩
            simp (disch := decide) only [selOr_same hlt', selOr_other hlt', selOr_on d0]
          · have d1 : listed.getD 1 false = true := ready_after hr rfl { on := 1, ground := .data } (by simp) rfl
            simp only [selOr_on d1]
            refine wpOpIn_of rfl rfl ?_
            clear hr hl0
            gi_wp2
            refine ⟨?_, q1⟩
            simp (disch := decide) only [selOr_same hlt', selOr_other hlt', selOr_on d1]
          · have d2 : listed.getD 2 false = true := ready_after hr rfl { on := 2, ground := .data } (by simp) rfl
            simp only [selOr_on d2]
            refine wpOpIn_of rfl rfl ?_
            clear hr hl0
            gi_wp2
            refine ⟨?_, q1⟩
            simp (disch := decide) only [selOr_same hlt', selOr_other hlt', selOr_on d2]
          · have d3 : listed.getD 3 false = true := ready_after hr rfl { on := 3, ground := .guard } (by simp) rfl
            simp only [selOr_on d3]
            refine wpOpIn_of rfl rfl ?_
            clear hr hl0
            gi_wp2
            refine ⟨?_, q1⟩
            simp (disch := decide) only [selOr_same hlt', selOr_other hlt', selOr_on d3]
          · have d3 : listed.getD 3 false = true := ready_after hr rfl { on := 3, ground := .guard } (by simp) rfl
            simp only [selOr_on d3]
            refine wpOpIn_of rfl rfl ?_
            clear hr hl0
            gi_wp2
            refine ⟨?_, q1⟩
            simp (disch := decide) only [selOr_same hlt', selOr_other hlt', selOr_on d3]
          · have d3 : listed.getD 3 false = true := ready_after hr rfl { on := 3, ground := .guard } (by simp) rfl
            simp only [selOr_on d3]
            refine wpOpIn_of rfl rfl ?_
            clear hr hl0
            gi_wp2
            refine ⟨?_, q1⟩
            simp (disch := decide) only [selOr_same hlt', selOr_other hlt', selOr_on d3]
          · have d6 : listed.getD 6 false = true := ready_after hr rfl { on := 6, ground := .data } (by simp) rfl
            have d3 : listed.getD 3 false = true := ready_after hr rfl { on := 3, ground := .guard } (by simp) rfl
            simp only [selOr_on d6, selOr_on d3]
            refine wpOpIn_of rfl rfl ?_
            clear hr hl0
            gi_wp2
            refine ⟨?_, q1⟩
            simp (disch := decide) only [selOr_same hlt', selOr_other hlt', selOr_on d6, selOr_on d3]
          · have d7 : listed.getD 7 false = true := ready_after hr rfl { on := 7, ground := .data } (by simp) rfl
            have d3 : listed.getD 3 false = true := ready_after hr rfl { on := 3, ground := .guard } (by simp) rfl
            simp only [selOr_on d7, selOr_on d3]
            refine wpOpIn_of rfl rfl ?_
            clear hr hl0
            gi_wp2
            refine ⟨?_, q1⟩
            simp (disch := decide) only [selOr_same hlt', selOr_other hlt', selOr_on d7, selOr_on d3]
          · have d5 : listed.getD 5 false = true := ready_after hr rfl { on := 5, ground := .data } (by simp) rfl
            have d8 : listed.getD 8 false = true := ready_after hr rfl { on := 8, ground := .data } (by simp) rfl
            have d3 : listed.getD 3 false = true := ready_after hr rfl { on := 3, ground := .guard } (by simp) rfl
            simp only [selOr_on d5, selOr_on d8, selOr_on d3]
            refine wpOpIn_of rfl rfl ?_
            clear hr hl0
            gi_wp2
            refine ⟨?_, q1⟩
            simp (disch := decide) only [selOr_same hlt', selOr_other hlt', selOr_on d5, selOr_on d8, selOr_on d3]
          · have d9 : listed.getD 9 false = true := ready_after hr rfl { on := 9, ground := .data } (by simp) rfl
            have d3 : listed.getD 3 false = true := ready_after hr rfl { on := 3, ground := .guard } (by simp) rfl
            simp only [selOr_on d9, selOr_on d3]
            refine wpOpIn_of rfl rfl ?_
            clear hr hl0
            gi_wp2
            refine ⟨?_, q1⟩
            simp (disch := decide) only [selOr_same hlt', selOr_other hlt', selOr_on d9, selOr_on d3]
          · have d3 : listed.getD 3 false = true := ready_after hr rfl { on := 3, ground := .guard } (by simp) rfl
            simp only [selOr_on d3]
            refine wpOpIn_of rfl rfl ?_
            clear hr hl0
            gi_wp2
            refine ⟨?_, q1⟩
            simp (disch := decide) only [selOr_same hlt', selOr_other hlt', selOr_on d3]
          · have d3 : listed.getD 3 false = true := ready_after hr rfl { on := 3, ground := .guard } (by simp) rfl
            simp only [selOr_on d3]
            refine wpOpIn_of rfl rfl ?_
            clear hr hl0
            gi_wp2
            refine ⟨?_, q1⟩
            simp (disch := decide) only [selOr_same hlt', selOr_other hlt', selOr_on d3]
          · have d12 : listed.getD 12 false = true := ready_after hr rfl { on := 12, ground := .data } (by simp) rfl
            have d3 : listed.getD 3 false = true := ready_after hr rfl { on := 3, ground := .guard } (by simp) rfl
            simp only [selOr_on d12, selOr_on d3]
            refine wpOpIn_of rfl rfl ?_
            clear hr hl0
            gi_wp2
            refine ⟨?_, q1⟩
            simp (disch := decide) only [selOr_same hlt', selOr_other hlt', selOr_on d12, selOr_on d3]
          · have d13 : listed.getD 13 false = true := ready_after hr rfl { on := 13, ground := .data } (by simp) rfl
            have d3 : listed.getD 3 false = true := ready_after hr rfl { on := 3, ground := .guard } (by simp) rfl
            simp only [selOr_on d13, selOr_on d3]
            refine wpOpIn_of rfl rfl ?_
            clear hr hl0
            gi_wp2
            refine ⟨?_, q1⟩
            simp (disch := decide) only [selOr_same hlt', selOr_other hlt', selOr_on d13, selOr_on d3]
          · have d11 : listed.getD 11 false = true := ready_after hr rfl { on := 11, ground := .data } (by simp) rfl
            have d14 : listed.getD 14 false = true := ready_after hr rfl { on := 14, ground := .data } (by simp) rfl
            have d3 : listed.getD 3 false = true := ready_after hr rfl { on := 3, ground := .guard } (by simp) rfl
            simp only [selOr_on d11, selOr_on d14, selOr_on d3]
            refine wpOpIn_of rfl rfl ?_
            clear hr hl0
            gi_wp2
            refine ⟨?_, q1⟩
            simp (disch := decide) only [selOr_same hlt', selOr_other hlt', selOr_on d11, selOr_on d14, selOr_on d3]
          · have d15 : listed.getD 15 false = true := ready_after hr rfl { on := 15, ground := .data } (by simp) rfl
            have d3 : listed.getD 3 false = true := ready_after hr rfl { on := 3, ground := .guard } (by simp) rfl
            simp only [selOr_on d15, selOr_on d3]
            refine wpOpIn_of rfl rfl ?_
            clear hr hl0
            gi_wp2
            refine ⟨?_, q1⟩
            simp (disch := decide) only [selOr_same hlt', selOr_other hlt', selOr_on d15, selOr_on d3]
          · have d3 : listed.getD 3 false = true := ready_after hr rfl { on := 3, ground := .guard } (by simp) rfl
            simp only [selOr_on d3]
            refine wpOpIn_of rfl rfl ?_
            clear hr hl0
            gi_wp2
            refine ⟨?_, q1⟩
            simp (disch := decide) only [selOr_same hlt', selOr_other hlt', selOr_on d3]
          · have d4 : listed.getD 4 false = true := ready_after hr rfl { on := 4, ground := .data } (by simp) rfl
            have d10 : listed.getD 10 false = true := ready_after hr rfl { on := 10, ground := .data } (by simp) rfl
            have d16 : listed.getD 16 false = true := ready_after hr rfl { on := 16, ground := .data } (by simp) rfl
            have d17 : listed.getD 17 false = true := ready_after hr rfl { on := 17, ground := .data } (by simp) rfl
            have d3 : listed.getD 3 false = true := ready_after hr rfl { on := 3, ground := .guard } (by simp) rfl
            simp only [selOr_on d4, selOr_on d10, selOr_on d16, selOr_on d17, selOr_on d3]
            refine wpOpIn_of rfl rfl ?_
            clear hr hl0
            gi_wp2
            refine ⟨trivial, rfl, (CallsIn.inRound l' (callsIn_w (hd.2 ya yb x V'))).mono ?_⟩
            rintro e V5 ⟨rfl, hb5⟩
            gi_wp2
            refine ⟨?_, q1.trans (hb5.mono q1.size)⟩
            simp (disch := decide) only [selOr_same hlt', selOr_other hlt', selOr_on d4, selOr_on d10, selOr_on d16, selOr_on d17, selOr_on d3]
          · have d3 : listed.getD 3 false = true := ready_after hr rfl { on := 3, ground := .data } (by simp) rfl
            have d18 : listed.getD 18 false = true := ready_after hr rfl { on := 18, ground := .data } (by simp) rfl
            simp only [selOr_on d3, selOr_on d18]
            refine wpOpIn_of rfl rfl ?_
            clear hr hl0
            gi_wp2
            refine ⟨?_, q1⟩
            simp (disch := decide) only [selOr_same hlt', selOr_other hlt', selOr_on d3, selOr_on d18]
        case finq =>
          rintro listed a V' hs ⟨rfl, q1⟩ hr
          have all : ∀ j, j < 20 → listed.getD j false = true := fun j hj => by
            cases q : listed.getD j false
            · exact absurd hr (ready_ne hs (by kernel_rfl) j (by simpa using hj) q)
            · rfl
          simp only [selOr_on (all 0 (by decide)), selOr_on (all 1 (by decide)), selOr_on (all 2 (by decide)), selOr_on (all 3 (by decide)), selOr_on (all 4 (by decide)), selOr_on (all 5 (by decide)), selOr_on (all 6 (by decide)), selOr_on (all 7 (by decide)), selOr_on (all 8 (by decide)), selOr_on (all 9 (by decide)), selOr_on (all 10 (by decide)), selOr_on (all 11 (by decide)), selOr_on (all 12 (by decide)), selOr_on (all 13 (by decide)), selOr_on (all 14 (by decide)), selOr_on (all 15 (by decide)), selOr_on (all 16 (by decide)), selOr_on (all 17 (by decide)), selOr_on (all 18 (by decide)), selOr_on (all 19 (by decide))]
          clear all hr hs
          by_cases hbad : bad ya yb x = true
          · rw [hbad]
            have HS1 := Aside0.mk (hS.out.step (by omega) q1)
            have HRV := Aside0.mk (KR.out.below q1 KR.out.lt)
            have HQ1 := Aside0.mk q1
            clear q1
            obtain ⟨v1, k1', ho1, hne1⟩ := HS1.out.out
            have hpop : Geo.pop bad x (ya :: r) = Geo.pop bad x st0 := by rw [← HS1.out.pop, Geo.pop, if_pos hbad]
            have hl1 : (ya :: r).length ≤ st0.length := Nat.le_trans (by simp) HS1.out.len
            obtain rfl : v1 = .slice (some ⟨g, 0, none⟩) n cap := by
              have e := ((HQ1.out.block _ (blk_lt K1.out)).trans K1.out).symm.trans k1'
              simp only [Option.some.injEq, Obj.cells.injEq, Array.mk.injEq, List.cons.injEq, and_true] at e
              exact e.symm
            have hout : OutV V' (w1.heap.size + 2) (.slice (some ⟨g, 0, none⟩) q cap) (ya :: r).reverse := by
              obtain ⟨_, hp, hq, _, hgb, _⟩ := HN.out
              have e : (ya :: r).reverse.length = q := by rw [← hq, ← hp]; simp
              refine .inr ⟨g, cap, by rw [e], hgb, ?_⟩
              have := HRV.out.take q
              rwa [show (yb :: ya :: r).reverse.take q = (ya :: r).reverse by rw [List.reverse_cons, ← e, List.take_left]] at this
            have hput := HS1.out.put (by omega) (by omega) (.slice (some ⟨g, 0, none⟩) q cap) hpop hl1 hout (fun k hk => hne1 k (by simpa [Value.ownBlock] using hk))
            have co := (blk_cell k1' 0).trans (rfl : _ = some (Value.slice (some ⟨g, 0, none⟩) n cap))
            have fo := blk_frozen k1' 0
            have hm2 : outLen (w0.heap.size + 1) (V'.setCell ⟨w0.heap.size + 1, 0, none⟩ (.slice (some ⟨g, 0, none⟩) q cap)) < outLen (w0.heap.size + 1) wr := by
              have e1 : (V'.setCell ⟨w0.heap.size + 1, 0, none⟩ (.slice (some ⟨g, 0, none⟩) q cap)).cell? ⟨w0.heap.size + 1, 0, none⟩ = some (.slice (some ⟨g, 0, none⟩) q cap) := (blk_cell (blk_set k1' 0 _) 0).trans rfl
              have e2 : wr.cell? ⟨w0.heap.size + 1, 0, none⟩ = some (.slice (some ⟨g, 0, none⟩) n cap) := (blk_cell K1.out 0).trans rfl
              unfold outLen
              rw [e1, e2]
              exact l2
            have HPUT := Aside0.mk hput
            have HM2 := Aside0.mk hm2
            clear k1' ho1 hne1 hpop hl1 hout hput hm2
            gi_wp2
            refine ⟨⟨ya :: r, HPUT⟩, ?_⟩
            exact HM2.out
          · have hbad' : bad ya yb x = false := by simpa using hbad
            rw [hbad']
            have hpop : Geo.pop bad x (yb :: ya :: r) = yb :: ya :: r := by rw [Geo.pop, if_neg hbad]
            clear hbad
            have HQ1 := Aside0.mk q1
            have hS1 := hS.out.step (by omega) q1
            clear q1 hS
            have hbase : w1.heap.size + 2 ≤ V'.heap.size := hS1.size
            obtain ⟨v1, k1', ho1, hne1⟩ := hS1.out
            obtain rfl : v1 = .slice (some ⟨g, 0, none⟩) n cap := by
              have e := ((HQ1.out.block _ (blk_lt K1.out)).trans K1.out).symm.trans k1'
              simp only [Option.some.injEq, Obj.cells.injEq, Array.mk.injEq, List.cons.injEq, and_true] at e
              exact e.symm
            have co := (blk_cell k1' 0).trans (rfl : _ = some (Value.slice (some ⟨g, 0, none⟩) n cap))
            have ⟨y0, y1⟩ : V'.cell? ⟨Bx, 0, none⟩ = some (.int .i64 x.f0) ∧ V'.cell? ⟨Bx, 1, none⟩ = some (.int .i64 x.f1) := ⟨(blk_cell hS1.hx 0).trans rfl, (blk_cell hS1.hx 1).trans rfl⟩
            have hS2 := hS1.step (by omega) ((Below.refl _ _).alloc (Nat.le_refl _) (.cells #[.int .i64 x.f0, .int .i64 x.f1] 23 (0, 0)))
            have ho2 : OutV (V'.alloc (.cells #[.int .i64 x.f0, .int .i64 x.f1] 23 (0, 0))) (w1.heap.size + 2) (.slice (some ⟨g, 0, none⟩) n cap) (yb :: ya :: r).reverse := ho1.block fun k hk => Below.heap_alloc _ _ _ (ho1.lt k hk).1
            have kx := blk_new V' (.cells #[.int .i64 x.f0, .int .i64 x.f1] 23 (0, 0))
            have kv := blk_alloc k1' (.cells #[.int .i64 x.f0, .int .i64 x.f1] 23 (0, 0))
            have fx := blk_frozen k1' 0
            have HS2 := Aside0.mk hS2
            have HO2 := Aside0.mk ho2
            have HKX := Aside0.mk kx
            have HKV := Aside0.mk kv
            have HLN := Aside0.mk (show (yb :: ya :: r).reverse.length + 1 ≤ 8796093022208 by rw [List.length_reverse, ← hpop]; have := HPL.out; rw [← hS1.pop] at this; exact this)
            have HCH := Aside0.mk (show Geo.chain bad (pre ++ [x]) [] = x :: yb :: ya :: r by rw [HSN.out, ← hS1.pop, hpop])
            clear hS1 k1' ho1 hne1 hS2 ho2 kx kv hpop
            gi_wp2_with (gi_at_builtin; refine wpListIn_append_pt _ rfl _ _ rfl (w1.heap.size + 2) _ (yb :: ya :: r).reverse rfl HO2.out V'.heap.size 1 x rfl ((blk_cell HKX.out 0).trans rfl) ((blk_cell HKX.out 1).trans rfl) HLN.out ?qb ?_)
            case qb => rw [World.size_alloc]; omega
            intro v' W2 ho3 hg3 _
            obtain ⟨A', ln, c', hform⟩ : ∃ A n c, v' = .slice A n c := by obtain ⟨A, c, e⟩ := ho3.form; exact ⟨A, _, c, e⟩
            subst hform
            have ho3' : OutV W2 (w1.heap.size + 2) (.slice A' ln c') ((yb :: ya :: r).reverse ++ [x]) := by rw [hz1]; simpa using ho3
            have HF := HS2.out.push (by omega) HKV.out hg3 ho3'
            have cB : W2.cell? ⟨w0.heap.size + 1, 0, none⟩ = some (.slice (some ⟨g, 0, none⟩) n cap) := (blk_cell ((hg3.block _ (blk_lt HKV.out) fun e => by have := (HO2.out.lt _ e.symm).2; omega).trans HKV.out) 0).trans rfl
            have fB : W2.frozen? ⟨w0.heap.size + 1, 0, none⟩ = false := blk_frozen ((hg3.block _ (blk_lt HKV.out) fun e => by have := (HO2.out.lt _ e.symm).2; omega).trans HKV.out) 0
            have HF' := Aside0.mk HF
            clear HF hg3 ho3 ho3'
            gi_wp2
            dsimp only [postS]
            rw [HCH.out]
            exact HF'.out
  case done =>
    rintro D V hD ⟨g1, g2, g3, v, g4, g5⟩ hK
    have cv := (blk_cell g4 0).trans (rfl : _ = some v)
    have HK := Aside0.mk hK
    have G5 := Aside0.mk g5
    clear hK g3 g4 g5
    gi_wp2
    refine ⟨by simp, .inl ⟨_, _, rfl, run_takeDeferred HK.out, ?_⟩⟩
    refine ⟨_, results_tmp rfl _ _ _, v, rfl, ?_, ?_⟩
    · refine (G5.out.block fun k hk => World.putObj_heap_other fun e => ?_).lower (by omega)
      obtain ⟨c, hc⟩ := G5.out.obj hk
      rw [e, HK.out] at hc
      cases hc
    · exact g1.trans (below_putObj _ _ (by omega))
  case stop =>
    rintro D pre V hD hpre g1 hK
    exact g1.elim
end Go.Proofs.Ytegdcnjjelgpjaa.P
namespace Go.Proofs.Ytegdcnjjelgpjaa.P
open Go.RowKit Go.Proofs.YtegdcnjjelgpjaaW.PrintWords Go.Proofs.YtegdcnjjelgpjaaW.PrintLast Go.Proofs.YtegdcnjjelgpjaaW.PrintMore
attribute [local go_sem] max2_int min2_int max_two min_two max_three min_three max_four min_four   -- for this text's walks alone
set_option linter.unusedVariables false
set_option linter.unusedSimpArgs false
def cmp_isNaN_107.f (a0 : Int) : Option (Bool) := some (a0 != a0)
set_option maxHeartbeats 8000000 in
set_option maxRecDepth 100000 in
theorem cmp_isNaN_107.calls (a0 : Int) (r : Bool) (w : World) (h : cmp_isNaN_107.f a0 = some r) :
    Calls Try.prog 107 #[.int .i64 a0] w fun e w' => e = .returned (.bool r) ∧ Drawn0 w w' := by
  have H : (some (a0 != a0)) = some r := h
  clear h
  obtain rfl := Option.some.inj H
  go_enter Try.func107, Try.ntmps107
  go_wp2
  go_ret
  exact ⟨by first | rfl | (simp; done) | (simp [*]; done), by repeat (first | exact Drawn0.refl _ | apply Drawn0.step)⟩
end Go.Proofs.Ytegdcnjjelgpjaa.P
namespace Go.Proofs.Ytegdcnjjelgpjaa.P
open Go.RowKit Go.Proofs.YtegdcnjjelgpjaaW.PrintWords Go.Proofs.YtegdcnjjelgpjaaW.PrintLast Go.Proofs.YtegdcnjjelgpjaaW.PrintMore
attribute [local go_sem] max2_int min2_int max_two min_two max_three min_three max_four min_four   -- for this text's walks alone
set_option linter.unusedVariables false
set_option linter.unusedSimpArgs false
def cmp_Compare_84.f (a0 : Int) (a1 : Int) : Option (Int) := (cmp_isNaN_107.f a0).bind fun t101 => ((cmp_isNaN_107.f a1).bind fun t102 => (if t101 = true then (if t102 = true then (some 0) else (some (-1))) else (if t102 = true then (some 1) else (if a0 < a1 then (some (-1)) else (if a0 > a1 then (some 1) else (some 0))))))
set_option maxHeartbeats 8000000 in
set_option maxRecDepth 100000 in
theorem cmp_Compare_84.calls (a0 : Int) (a1 : Int) (r : Int) (w : World) (h : cmp_Compare_84.f a0 a1 = some r) :
    Calls Try.prog 84 #[.int .i64 a0, .int .i64 a1] w fun e w' => e = .returned (.int .i64 r) ∧ Drawn0 w w' := by
  have H : ((cmp_isNaN_107.f a0).bind fun t101 => ((cmp_isNaN_107.f a1).bind fun t102 => (if t101 = true then (if t102 = true then (some 0) else (some (-1))) else (if t102 = true then (some 1) else (if a0 < a1 then (some (-1)) else (if a0 > a1 then (some 1) else (some 0))))))) = some r := h
  clear h
  replace H := Option.bind_eq_some_iff.mp H
  obtain ⟨t101, A30, H⟩ := H
  replace H : ((cmp_isNaN_107.f a1).bind fun t102 => (if t101 = true then (if t102 = true then (some 0) else (some (-1))) else (if t102 = true then (some 1) else (if a0 < a1 then (some (-1)) else (if a0 > a1 then (some 1) else (some 0)))))) = some r := H
  have A3 := Aside0.mk A30
  clear A30
  replace H := Option.bind_eq_some_iff.mp H
  obtain ⟨t102, A40, H⟩ := H
  replace H : (if t101 = true then (if t102 = true then (some 0) else (some (-1))) else (if t102 = true then (some 1) else (if a0 < a1 then (some (-1)) else (if a0 > a1 then (some 1) else (some 0))))) = some r := H
  have A4 := Aside0.mk A40
  clear A40
  by_cases c5 : t101 = true
  · subst c5
    have H1 : (if t102 = true then (some 0) else (some (-1))) = some r := by rw [if_pos rfl] at H; exact H
    clear H
    have H := H1
    clear H1
    by_cases c6 : t102 = true
    · subst c6
      have H1 : (some 0) = some r := by rw [if_pos rfl] at H; exact H
      clear H
      have H := H1
      clear H1
      obtain rfl := Option.some.inj H
      go_enter Try.func84, Try.ntmps84
      go_wp2_with (first | ((with_reducible refine gate_callee (f := 107) rfl ?_); refine goesL_ (some 8) rfl rfl Try.func107 (by kernel_rfl) rfl #[.int .i64 a0] rfl (by (try simp only [List.map_toArray, List.map_cons, List.map_nil]); first | done | rfl | (simp only [List.length_drop, List.length_take]; rfl)) ?_; (with_reducible refine (cmp_isNaN_107.calls a0 true _ A3.out).mono ?_); rintro e w' ⟨rfl, ⟨nd, rfl⟩⟩; refine ⟨_, rfl, ?_⟩) | ((with_reducible refine gate_callee (f := 107) rfl ?_); refine goesL_ (some 10) rfl rfl Try.func107 (by kernel_rfl) rfl #[.int .i64 a1] rfl (by (try simp only [List.map_toArray, List.map_cons, List.map_nil]); first | done | rfl | (simp only [List.length_drop, List.length_take]; rfl)) ?_; (with_reducible refine (cmp_isNaN_107.calls a1 true _ A4.out).mono ?_); rintro e w' ⟨rfl, ⟨nd, rfl⟩⟩; refine ⟨_, rfl, ?_⟩))
      go_ret
      exact ⟨by first | rfl | (simp; done) | (simp [*]; done), by repeat (first | exact Drawn0.refl _ | apply Drawn0.step)⟩
    · replace c6 := Bool.eq_false_iff.mpr c6
      subst c6
      have H1 : (some (-1)) = some r := by rw [if_neg (show ¬ (false = true) by decide)] at H; exact H
      clear H
      have H := H1
      clear H1
      obtain rfl := Option.some.inj H
      go_enter Try.func84, Try.ntmps84
      go_wp2_with (first | ((with_reducible refine gate_callee (f := 107) rfl ?_); refine goesL_ (some 8) rfl rfl Try.func107 (by kernel_rfl) rfl #[.int .i64 a0] rfl (by (try simp only [List.map_toArray, List.map_cons, List.map_nil]); first | done | rfl | (simp only [List.length_drop, List.length_take]; rfl)) ?_; (with_reducible refine (cmp_isNaN_107.calls a0 true _ A3.out).mono ?_); rintro e w' ⟨rfl, ⟨nd, rfl⟩⟩; refine ⟨_, rfl, ?_⟩) | ((with_reducible refine gate_callee (f := 107) rfl ?_); refine goesL_ (some 10) rfl rfl Try.func107 (by kernel_rfl) rfl #[.int .i64 a1] rfl (by (try simp only [List.map_toArray, List.map_cons, List.map_nil]); first | done | rfl | (simp only [List.length_drop, List.length_take]; rfl)) ?_; (with_reducible refine (cmp_isNaN_107.calls a1 false _ A4.out).mono ?_); rintro e w' ⟨rfl, ⟨nd, rfl⟩⟩; refine ⟨_, rfl, ?_⟩))
      go_ret
      exact ⟨by first | rfl | (simp; done) | (simp [*]; done), by repeat (first | exact Drawn0.refl _ | apply Drawn0.step)⟩
  · replace c5 := Bool.eq_false_iff.mpr c5
    subst c5
    have H1 : (if t102 = true then (some 1) else (if a0 < a1 then (some (-1)) else (if a0 > a1 then (some 1) else (some 0)))) = some r := by rw [if_neg (show ¬ (false = true) by decide)] at H; exact H
    clear H
    have H := H1
    clear H1
    by_cases c7 : t102 = true
    · subst c7
      have H1 : (some 1) = some r := by rw [if_pos rfl] at H; exact H
      clear H
      have H := H1
      clear H1
      obtain rfl := Option.some.inj H
      go_enter Try.func84, Try.ntmps84
      go_wp2_with (first | ((with_reducible refine gate_callee (f := 107) rfl ?_); refine goesL_ (some 8) rfl rfl Try.func107 (by kernel_rfl) rfl #[.int .i64 a0] rfl (by (try simp only [List.map_toArray, List.map_cons, List.map_nil]); first | done | rfl | (simp only [List.length_drop, List.length_take]; rfl)) ?_; (with_reducible refine (cmp_isNaN_107.calls a0 false _ A3.out).mono ?_); rintro e w' ⟨rfl, ⟨nd, rfl⟩⟩; refine ⟨_, rfl, ?_⟩) | ((with_reducible refine gate_callee (f := 107) rfl ?_); refine goesL_ (some 10) rfl rfl Try.func107 (by kernel_rfl) rfl #[.int .i64 a1] rfl (by (try simp only [List.map_toArray, List.map_cons, List.map_nil]); first | done | rfl | (simp only [List.length_drop, List.length_take]; rfl)) ?_; (with_reducible refine (cmp_isNaN_107.calls a1 true _ A4.out).mono ?_); rintro e w' ⟨rfl, ⟨nd, rfl⟩⟩; refine ⟨_, rfl, ?_⟩))
      go_ret
      exact ⟨by first | rfl | (simp; done) | (simp [*]; done), by repeat (first | exact Drawn0.refl _ | apply Drawn0.step)⟩
    · replace c7 := Bool.eq_false_iff.mpr c7
      subst c7
      have H1 : (if a0 < a1 then (some (-1)) else (if a0 > a1 then (some 1) else (some 0))) = some r := by rw [if_neg (show ¬ (false = true) by decide)] at H; exact H
      clear H
      have H := H1
      clear H1
      by_cases c8 : a0 < a1
      · rw [if_pos c8] at H
        have c8b0 : decide (a0 < a1) = true := decide_eq_true c8
        clear c8
        obtain rfl := Option.some.inj H
        go_enter Try.func84, Try.ntmps84
        go_wp2_with (first | ((with_reducible refine gate_callee (f := 107) rfl ?_); refine goesL_ (some 8) rfl rfl Try.func107 (by kernel_rfl) rfl #[.int .i64 a0] rfl (by (try simp only [List.map_toArray, List.map_cons, List.map_nil]); first | done | rfl | (simp only [List.length_drop, List.length_take]; rfl)) ?_; (with_reducible refine (cmp_isNaN_107.calls a0 false _ A3.out).mono ?_); rintro e w' ⟨rfl, ⟨nd, rfl⟩⟩; refine ⟨_, rfl, ?_⟩) | ((with_reducible refine gate_callee (f := 107) rfl ?_); refine goesL_ (some 10) rfl rfl Try.func107 (by kernel_rfl) rfl #[.int .i64 a1] rfl (by (try simp only [List.map_toArray, List.map_cons, List.map_nil]); first | done | rfl | (simp only [List.length_drop, List.length_take]; rfl)) ?_; (with_reducible refine (cmp_isNaN_107.calls a1 false _ A4.out).mono ?_); rintro e w' ⟨rfl, ⟨nd, rfl⟩⟩; refine ⟨_, rfl, ?_⟩))
        go_ret
        exact ⟨by first | rfl | (simp; done) | (simp [*]; done), by repeat (first | exact Drawn0.refl _ | apply Drawn0.step)⟩
      · rw [if_neg c8] at H
        have c8b0 : decide (a0 < a1) = false := decide_eq_false c8
        clear c8
        by_cases c9 : a0 > a1
        · rw [if_pos c9] at H
          have c9b0 : decide (a1 < a0) = true := decide_eq_true c9
          clear c9
          obtain rfl := Option.some.inj H
          go_enter Try.func84, Try.ntmps84
          go_wp2_with (first | ((with_reducible refine gate_callee (f := 107) rfl ?_); refine goesL_ (some 8) rfl rfl Try.func107 (by kernel_rfl) rfl #[.int .i64 a0] rfl (by (try simp only [List.map_toArray, List.map_cons, List.map_nil]); first | done | rfl | (simp only [List.length_drop, List.length_take]; rfl)) ?_; (with_reducible refine (cmp_isNaN_107.calls a0 false _ A3.out).mono ?_); rintro e w' ⟨rfl, ⟨nd, rfl⟩⟩; refine ⟨_, rfl, ?_⟩) | ((with_reducible refine gate_callee (f := 107) rfl ?_); refine goesL_ (some 10) rfl rfl Try.func107 (by kernel_rfl) rfl #[.int .i64 a1] rfl (by (try simp only [List.map_toArray, List.map_cons, List.map_nil]); first | done | rfl | (simp only [List.length_drop, List.length_take]; rfl)) ?_; (with_reducible refine (cmp_isNaN_107.calls a1 false _ A4.out).mono ?_); rintro e w' ⟨rfl, ⟨nd, rfl⟩⟩; refine ⟨_, rfl, ?_⟩))
          go_ret
          exact ⟨by first | rfl | (simp; done) | (simp [*]; done), by repeat (first | exact Drawn0.refl _ | apply Drawn0.step)⟩
        · rw [if_neg c9] at H
          have c9b0 : decide (a1 < a0) = false := decide_eq_false c9
          clear c9
          obtain rfl := Option.some.inj H
          go_enter Try.func84, Try.ntmps84
          go_wp2_with (first | ((with_reducible refine gate_callee (f := 107) rfl ?_); refine goesL_ (some 8) rfl rfl Try.func107 (by kernel_rfl) rfl #[.int .i64 a0] rfl (by (try simp only [List.map_toArray, List.map_cons, List.map_nil]); first | done | rfl | (simp only [List.length_drop, List.length_take]; rfl)) ?_; (with_reducible refine (cmp_isNaN_107.calls a0 false _ A3.out).mono ?_); rintro e w' ⟨rfl, ⟨nd, rfl⟩⟩; refine ⟨_, rfl, ?_⟩) | ((with_reducible refine gate_callee (f := 107) rfl ?_); refine goesL_ (some 10) rfl rfl Try.func107 (by kernel_rfl) rfl #[.int .i64 a1] rfl (by (try simp only [List.map_toArray, List.map_cons, List.map_nil]); first | done | rfl | (simp only [List.length_drop, List.length_take]; rfl)) ?_; (with_reducible refine (cmp_isNaN_107.calls a1 false _ A4.out).mono ?_); rintro e w' ⟨rfl, ⟨nd, rfl⟩⟩; refine ⟨_, rfl, ?_⟩))
          go_ret
          exact ⟨by first | rfl | (simp; done) | (simp [*]; done), by repeat (first | exact Drawn0.refl _ | apply Drawn0.step)⟩
end Go.Proofs.Ytegdcnjjelgpjaa.P
namespace Go.Proofs.Ytegdcnjjelgpjaa.P
open Go.Shelf Go.RowKit Go.Lib Go.Sort Go.Proofs.YtegdcnjjelgpjaaW.PrintWords Go.Proofs.YtegdcnjjelgpjaaW.PrintLast Go.Proofs.YtegdcnjjelgpjaaW.PrintMore
set_option linter.unusedVariables false
set_option linter.unusedSimpArgs false
def sortPts_ren : Go.Shelf.Ren := ⟨fun | 6 => 109 | 15 => 125 | 14 => 124 | 28 => 139 | 29 => 140 | 20 => 131 | 21 => 132 | 22 => 133 | 23 => 134 | 24 => 135 | 25 => 136 | 26 => 137 | 27 => 138 | 46 => 141 | 47 => 142 | 48 => 143 | 49 => 144 | 50 => 145 | 57 => 146 | n => n, fun | 22 => 53 | 24 => 23 | 25 => 117 | 3 => 3 | 39 => 114 | 0 => 0 | 53 => 34 | 55 => 113 | 4 => 4 | 46 => 139 | 45 => 138 | 50 => 143 | 5 => 5 | 9 => 9 | 66 => 147 | 70 => 151 | 76 => 153 | 77 => 154 | n => n, fun | n => n⟩
theorem sortPts : Go.Proofs.SlLaysF0.n6 Try.prog sortPts_ren := {
  mixed := by kernel_rfl,
  f6 := ⟨Try.f109.name, by decide, Try.func109.trans (congrArg some (by kernel_rfl))⟩,
  f14 := ⟨Try.f124.name, by decide, Try.func124.trans (congrArg some (by kernel_rfl))⟩,
  f15 := Try.func125.trans (congrArg some (by kernel_rfl)),
  f20 := ⟨Try.f131.name, by decide, Try.func131.trans (congrArg some (by kernel_rfl))⟩,
  f21 := ⟨Try.f132.name, by decide, Try.func132.trans (congrArg some (by kernel_rfl))⟩,
  f22 := ⟨Try.f133.name, by decide, Try.func133.trans (congrArg some (by kernel_rfl))⟩,
  f23 := ⟨Try.f134.name, by decide, Try.func134.trans (congrArg some (by kernel_rfl))⟩,
  f24 := ⟨Try.f135.name, by decide, Try.func135.trans (congrArg some (by kernel_rfl))⟩,
  f25 := ⟨Try.f136.name, by decide, Try.func136.trans (congrArg some (by kernel_rfl))⟩,
  f26 := ⟨Try.f137.name, by decide, Try.func137.trans (congrArg some (by kernel_rfl))⟩,
  f27 := ⟨Try.f138.name, by decide, Try.func138.trans (congrArg some (by kernel_rfl))⟩,
  f28 := Try.func139.trans (congrArg some (by kernel_rfl)),
  f29 := Try.func140.trans (congrArg some (by kernel_rfl)),
  f46 := ⟨Try.f141.name, by decide, Try.func141.trans (congrArg some (by kernel_rfl))⟩,
  f47 := Try.func142.trans (congrArg some (by kernel_rfl)),
  f48 := Try.func143.trans (congrArg some (by kernel_rfl)),
  f49 := ⟨Try.f144.name, by decide, Try.func144.trans (congrArg some (by kernel_rfl))⟩,
  f50 := ⟨Try.f145.name, by decide, Try.func145.trans (congrArg some (by kernel_rfl))⟩,
  f57 := ⟨Try.f146.name, by decide, Try.func146.trans (congrArg some (by kernel_rfl))⟩,
  t0 := Try.underlying0,
  a0 := Try.isAgg0,
  z0 := Try.sizeOf0,
  v0 := Try.zeroValue0,
  t3 := Try.underlying3,
  a3 := Try.isAgg3,
  z3 := Try.sizeOf3,
  v3 := Try.zeroValue3,
  t4 := Try.underlying4,
  a4 := Try.isAgg4,
  z4 := Try.sizeOf4,
  v4 := Try.zeroValue4,
  t5 := Try.underlying5,
  a5 := Try.isAgg5,
  z5 := Try.sizeOf5,
  v5 := Try.zeroValue5,
  t9 := Try.underlying9,
  a9 := Try.isAgg9,
  z9 := Try.sizeOf9,
  v9 := Try.zeroValue9,
  t22 := Try.underlying53,
  a22 := Try.isAgg53,
  z22 := Try.sizeOf53,
  v22 := Try.zeroValue53,
  t25 := Try.underlying117,
  a25 := Try.isAgg117,
  z25 := Try.sizeOf117,
  v25 := Try.zeroValue117,
  t39 := Try.underlying114,
  a39 := Try.isAgg114,
  z39 := Try.sizeOf114,
  v39 := Try.zeroValue114,
  t45 := Try.underlying138,
  a45 := Try.isAgg138,
  z45 := Try.sizeOf138,
  v45 := Try.zeroValue138,
  t46 := Try.underlying139,
  a46 := Try.isAgg139,
  z46 := Try.sizeOf139,
  v46 := Try.zeroValue139,
  t50 := Try.underlying143,
  a50 := Try.isAgg143,
  z50 := Try.sizeOf143,
  v50 := Try.zeroValue143,
  t53 := Try.underlying34,
  a53 := Try.isAgg34,
  z53 := Try.sizeOf34,
  v53 := Try.zeroValue34,
  t55 := Try.underlying113,
  a55 := Try.isAgg113,
  z55 := Try.sizeOf113,
  v55 := Try.zeroValue113,
  t66 := Try.underlying147,
  a66 := Try.isAgg147,
  z66 := Try.sizeOf147,
  v66 := Try.zeroValue147,
  t70 := Try.underlying151,
  a70 := Try.isAgg151,
  z70 := Try.sizeOf151,
  v70 := Try.zeroValue151,
  t76 := Try.underlying153,
  a76 := Try.isAgg153,
  z76 := Try.sizeOf153,
  v76 := Try.zeroValue153,
  t77 := Try.underlying154,
  a77 := Try.isAgg154,
  z77 := Try.sizeOf154,
  v77 := Try.zeroValue154 }
def reversePts_ren : Go.Shelf.Ren := ⟨fun | 35 => 115 | n => n, fun | 22 => 53 | 23 => 23 | 3 => 3 | 4 => 4 | 0 => 0 | n => n, fun | n => n⟩
theorem reversePts : Go.Proofs.SlLaysE0.n35 Try.prog reversePts_ren := {
  mixed := by kernel_rfl,
  f35 := ⟨Try.f115.name, by decide, Try.func115.trans (congrArg some (by kernel_rfl))⟩,
  t0 := Try.underlying0,
  a0 := Try.isAgg0,
  z0 := Try.sizeOf0,
  v0 := Try.zeroValue0,
  t3 := Try.underlying3,
  a3 := Try.isAgg3,
  z3 := Try.sizeOf3,
  v3 := Try.zeroValue3,
  t4 := Try.underlying4,
  a4 := Try.isAgg4,
  z4 := Try.sizeOf4,
  v4 := Try.zeroValue4,
  t22 := Try.underlying53,
  a22 := Try.isAgg53,
  z22 := Try.sizeOf53,
  v22 := Try.zeroValue53 }
def cmpI (a b : Int) : Int := if a < b then -1 else if b < a then 1 else 0
theorem cmpI_eq (a b : Int) : cmp_Compare_84.f a b = some (cmpI a b) := by
  unfold cmp_Compare_84.f cmpI
  simp only [cmp_isNaN_107.f]
  by_cases h1 : a < b
  · simp [h1]
  · by_cases h2 : b < a
    · simp [h1, h2]
    · simp [h1, h2]
def cmpP (x y : S23) : Int := if x.f0 ≠ y.f0 then cmpI x.f0 y.f0 else cmpI x.f1 y.f1
theorem ltOf_cmpP (x y : S23) : ltOf cmpP x y = Geo.ltb S23.f0 S23.f1 x y := by
  unfold ltOf cmpP cmpI Geo.ltb
  by_cases h : x.f0 = y.f0
  · simp only [h, ne_eq, not_true, if_false]
    by_cases h1 : x.f1 < y.f1
    · simp [h1]
    · by_cases h2 : y.f1 < x.f1 <;> simp [h1, h2]
  · simp only [h, ne_eq, not_false_eq_true, if_true]
    by_cases h1 : x.f0 < y.f0
    · simp [h1]
    · by_cases h2 : y.f0 < x.f0 <;> simp [h1, h2]
theorem swo_cmpP : SWO (ltOf cmpP) where
  irrefl x := by rw [ltOf_cmpP]; simp [Geo.ltb]
  trans x y z h1 h2 := by rw [ltOf_cmpP] at *; simp [Geo.ltb] at *; omega
  ntrans x y z h1 h2 := by rw [ltOf_cmpP] at *; simp [Geo.ltb] at *; omega
set_option maxHeartbeats 1000000 in
theorem compare_cf (x y : S23) (W : World) : Calls Try.prog 110 #[.agg #[.int .i64 x.f0, .int .i64 x.f1], .agg #[.int .i64 y.f0, .int .i64 y.f1]] W fun e w' => e = .returned (.int .i64 (cmpP x y)) ∧ ∃ q os', w' = grow (W.drewN q) os' := by
  have c := fun a b W' => cmp_Compare_84.calls a b (cmpI a b) W' (cmpI_eq a b)
  by_cases h : x.f0 = y.f0
  · have e : cmpP x y = cmpI x.f1 y.f1 := by unfold cmpP; rw [if_neg (by simpa using h)]
    rw [e]
    have h1 : (x.f0 != y.f0) = false := by simpa using h
    have h2 : decide (x.f0 = y.f0) = true := decide_eq_true h
    clear h e
    go_enter Try.func110, Try.ntmps110
    go_wp2_with (go_at_call 84; refine (c _ _ _).mono ?_; rintro e w' ⟨rfl, ⟨nd, rfl⟩⟩)
    go_ret
    exact ⟨rfl, nd, _, by rw [alloc_eq_grow, alloc_eq_grow, grow_grow]; rfl⟩
  · have e : cmpP x y = cmpI x.f0 y.f0 := by unfold cmpP; rw [if_pos h]
    rw [e]
    have h1 : (x.f0 != y.f0) = true := by simpa using h
    have h2 : decide (x.f0 = y.f0) = false := decide_eq_false h
    clear e
    go_enter Try.func110, Try.ntmps110
    go_wp2_with (go_at_call 84; refine (c _ _ _).mono ?_; rintro e w' ⟨rfl, ⟨nd, rfl⟩⟩)
    go_ret
    exact ⟨rfl, nd, _, by rw [alloc_eq_grow, alloc_eq_grow, grow_grow]; rfl⟩
theorem compare_lays (blk off size : Nat) (w : World) : CmpLays Try.prog 110 #[] ptC 2 cmpP blk off size w := fun _ _ _ _ x y => compare_cf x y _
theorem get_bang_list (l : List S23) (i : Nat) (h : i < l.length) : l.toArray[i]! = l[i] := by simp [h]
theorem Row2.holds {w : World} {g cap : Nat} {l : List S23} (h : Row2 w g cap l) : HoldsK ptC 2 w g 0 l.toArray := by
  intro t ht
  rw [size_flatK, List.size_toArray] at ht
  refine ⟨?_, h.free _⟩
  rw [get_flatK _ _ _ _ (by simpa using ht), get_bang_list l (t / 2) (by omega), Nat.zero_add]
  have c := h.cell (t / 2) (by omega)
  rcases Nat.mod_two_eq_zero_or_one t with e | e
  · rw [e]
    have e2 : t = t / 2 * 2 := by omega
    exact (congrArg (fun z => w.cell? ⟨g, z, none⟩) e2).trans c.1
  · rw [e]
    have e2 : t = t / 2 * 2 + 1 := by omega
    exact (congrArg (fun z => w.cell? ⟨g, z, none⟩) e2).trans c.2
theorem Row2.ofHolds {w : World} {g cap : Nat} {l : List S23} {cur : Array Value} (h1 : w.heap[g]? = some (.cells cur 23 (0, 0))) (h2 : cur.size = cap * 2) (h3 : l.length ≤ cap) (h4 : cap ≤ maxLen) (h : HoldsK ptC 2 w g 0 l.toArray) : Row2 w g cap l := by
  refine ⟨cur, h1, h2, h3, h4, fun j hj => ?_⟩
  have c : ∀ i, i < 2 → cur[j * 2 + i]? = some (ptC l[j])[i]! := fun i hi => by
    have := (h.cell (i := j) (c := i) (by simpa using hj) hi).1
    rw [get_bang_list l j hj, Nat.zero_add, blk_cell h1] at this
    exact this
  exact ⟨c 0 (by decide), c 1 (by decide)⟩
theorem grow_block (w : World) (os : Array Obj) (g off : Nat) (d : Array S23) (n : Nat) {cur : Array Value} (h : w.heap[g]? = some (.cells cur 23 (0, 0))) : ∃ cur', (sortWorldK ptC 2 w g off n d os).heap[g]? = some (.cells cur' 23 (0, 0)) ∧ cur'.size = cur.size := by
  have hlt := blk_lt h
  refine ⟨putCells id off (flatK ptC 2 d) cur, ?_, by simp [putCells]⟩
  unfold sortWorldK putRowK putRow
  rw [heap_grow_old _ _ (by simp [mapBlock]; exact hlt)]
  simp [mapBlock, onCells, h, Array.getElem?_modify]
theorem sortWorld_below (w : World) (os : Array Obj) (g off : Nat) (d : Array S23) (n base : Nat) (hb : base ≤ g) (hg : g < w.heap.size) : Below base w (sortWorldK ptC 2 w g off n d os) := by
  refine ⟨rfl, rfl, rfl, size_sortWorldK_c ptC 2 w g off n d os, fun k hk => ?_⟩
  unfold sortWorldK putRowK putRow
  rw [heap_grow_old _ _ (by simp [mapBlock]; omega)]
  have hne : g ≠ k := by omega
  simp [mapBlock, Array.getElem?_modify, hne]
theorem pairwise_sorted {l : List S23} (h : SortedIn (ltOf cmpP) 0 l.length l.toArray) : l.Pairwise (fun a b => ¬ Geo.lt S23.f0 S23.f1 b a) := by
  rw [List.pairwise_iff_getElem]
  intro i j hi hj hij
  have := h i j (Nat.zero_le _) hij hj
  rw [get_bang_list l i hi, get_bang_list l j hj, ltOf_cmpP] at this
  exact Geo.ltb_false.1 this
theorem sort_pts (g cap : Nat) (l : List S23) (w : World) (hr : Row2 w g cap l) (hl : l.length < 4611686018427387904) (base : Nat) (hb : base ≤ g) :
    Calls Try.prog 109 #[.slice (some ⟨g, 0, none⟩) l.length cap, .func (.func 110) #[] #[]] w fun e w' => e = .returned (.tuple #[]) ∧ ∃ l', l'.length = l.length ∧ (∀ z, z ∈ l' ↔ z ∈ l) ∧ l'.Pairwise (fun a b => ¬ Geo.lt S23.f0 S23.f1 b a) ∧ Row2 w' g cap l' ∧ Below base w w' := by
  have eg : ∀ args w, (callFunc 110 args).run Try.prog w = .ok (.enter 110 args) w := enters_of Try.func110 (by kernel_rfl) rfl
  have hcon := AnyQ.slices_SortFunc sortPts 2 Try.isAgg23 Try.sizeOf23 ptC (fun _ => rfl) (fun x v hv => by simp [ptC] at hv; rcases hv with rfl | rfl <;> rfl) cmpP swo_cmpP 110 #[] g 0 cap l.toArray w eg (compare_lays g 0 l.toArray.size w) hr.holds hr.lt hl
  refine hcon.mono ?_
  rintro e w' ⟨rfl, d', n, os, hp, hs, rfl⟩
  obtain ⟨cur, h1, h2, h3, h4, _⟩ := hr
  have hlt := blk_lt h1
  obtain ⟨cur', k1, k2⟩ := grow_block w os g 0 d' n h1
  obtain ⟨d'⟩ := d'
  have hsz : d'.length = l.length := by simpa using hp.1
  have hperm : d'.Perm l := by
    have q := hp.2.2
    have ex : ∀ (a : List S23) (n : Nat), a.length = n → (a.toArray.extract 0 n).toList = a := by
      intro a n h; subst h; simp
    rw [ex d' _ (by simpa using hsz), ex l _ (by simp)] at q
    exact q
  refine ⟨rfl, d', hsz, fun z => hperm.mem_iff, ?_, ?_, sortWorld_below w os g 0 _ n base hb hlt⟩
  · refine pairwise_sorted ?_
    rw [hsz]; simpa using hs
  · refine Row2.ofHolds k1 (by rw [k2, h2]) (by omega) h4 ?_
    exact holdsK_sortWorldK_c ptC 2 w g 0 l.toArray d'.toArray n os (Row2.holds ⟨cur, h1, h2, h3, h4, ‹_›⟩) hlt (by simpa using hsz)
theorem sortWorld_far (w : World) (os : Array Obj) (g off : Nat) (d : Array S23) (n k : Nat) (hk : k ≠ g) (hlt : k < w.heap.size) : (sortWorldK ptC 2 w g off n d os).heap[k]? = w.heap[k]? := by
  unfold sortWorldK putRowK putRow
  rw [heap_grow_old _ _ (by simp [mapBlock]; omega)]
  have hne : g ≠ k := by omega
  simp [mapBlock, Array.getElem?_modify, hne]
theorem reverse_pts (g cap : Nat) (l : List S23) (w : World) (hr : Row2 w g cap l) (hl : l.length < 4611686018427387904) (h0 : 0 < l.length) :
    Calls Try.prog 115 #[.slice (some ⟨g, 0, none⟩) l.length cap] w fun e w' => e = .returned (.tuple #[]) ∧ Row2 w' g cap l.reverse ∧ Below g w w' ∧ ∀ k, k ≠ g → k < w.heap.size → w'.heap[k]? = w.heap[k]? := by
  have hcon := AnyQ.slices_Reverse reversePts 2 Try.isAgg23 Try.sizeOf23 ptC (fun _ => rfl) (fun x v hv => by simp [ptC] at hv; rcases hv with rfl | rfl <;> rfl) g 0 cap l.toArray w hr.holds (by simp; omega)
  refine hcon.mono ?_
  rintro e w' ⟨rfl, n, rfl⟩
  have hr' := hr
  obtain ⟨cur, h1, h2, h3, h4, _⟩ := hr
  have hlt := blk_lt h1
  have e1 : putRowK ptC 2 (Sort.ahead w n) g 0 l.toArray.reverse = sortWorldK ptC 2 w g 0 n l.reverse.toArray #[] := by
    unfold sortWorldK; rw [grow_empty]; simp
  rw [e1]
  obtain ⟨cur', k1, k2⟩ := grow_block w #[] g 0 l.reverse.toArray n h1
  refine ⟨rfl, ?_, sortWorld_below w #[] g 0 _ n g (Nat.le_refl _) hlt, fun k hk hks => sortWorld_far w #[] g 0 _ n k hk hks⟩
  refine Row2.ofHolds k1 (by rw [k2, h2]) (by simpa using h3) h4 ?_
  exact holdsK_sortWorldK_c ptC 2 w g 0 l.toArray l.reverse.toArray n #[] hr'.holds hlt (by simp)
end Go.Proofs.Ytegdcnjjelgpjaa.P
namespace Go.Proofs.Ytegdcnjjelgpjaa.P
open Go.RowKit Go.Proofs.YtegdcnjjelgpjaaW.PrintWords Go.Proofs.YtegdcnjjelgpjaaW.PrintLast Go.Proofs.YtegdcnjjelgpjaaW.PrintMore
attribute [local go_sem high] eqA23
set_option linter.unusedVariables false
set_option linter.unusedSimpArgs false
theorem Row2.beyond {w : World} {g cap : Nat} {l : List S23} (h : Row2 w g cap l) (i : Nat) (hi : l.length * 2 ≤ i) (v : Value) : Row2 (w.setCell ⟨g, i, none⟩ v) g cap l := by
  obtain ⟨cur, h1, h2, h3, h4, h5⟩ := h
  refine ⟨_, blk_set h1 i v, by simp [h2], h3, h4, fun j hj => ?_⟩
  rw [Array.getElem?_setIfInBounds_ne (by omega), Array.getElem?_setIfInBounds_ne (by omega)]
  exact h5 j hj
theorem Row2.beyonds {g cap : Nat} {l : List S23} : ∀ (vs : List Value) (w : World) (i : Nat), Row2 w g cap l → l.length * 2 ≤ i → Row2 (w.setCells g i vs) g cap l
  | [], _, _, h, _ => h
  | v :: vs, w, i, h, hi => Row2.beyonds vs _ (i + 1) (h.beyond i hi v) (by omega)
theorem below_setCells {base g : Nat} (hb : base ≤ g) : ∀ (vs : List Value) (w : World) (i : Nat), Below base w (w.setCells g i vs)
  | [], w, _ => Below.refl _ _
  | v :: vs, w, i => ((Below.refl base w).setCell (p := ⟨g, i, none⟩) hb v).trans (below_setCells hb vs _ (i + 1))
theorem run_clear_pts (w : World) (ty : TypeId) (b o n c : Nat) (hn : 0 < n) (hc : ∀ j, j < n * 2 → (w.cell? ⟨b, o + j, none⟩).isSome = true) (hf : ∀ j, j < n * 2 → w.frozen? ⟨b, o + j, none⟩ = false) :
    ∃ Z, (Builtin.clear_ #[53] ty #[.slice (some ⟨b, o, none⟩) n c]).run Try.prog w = .ok (.tuple #[]) (w.setCells b o Z) := by
  have hl : (Builtin.zeroCells #[Value.int .i64 0, .int .i64 0] n).toList.length = n * 2 := by simp [Builtin.zeroCells]
  have h1 : ∀ v ∈ (Builtin.zeroCells #[Value.int .i64 0, .int .i64 0] n).toList, v.oneCell' = true := by
    intro v hv
    simp only [Builtin.zeroCells, Array.toList_map, List.mem_map] at hv
    obtain ⟨i, _, rfl⟩ := hv
    have : i % (#[Value.int .i64 0, .int .i64 0] : Array Value).size = 0 ∨ i % (#[Value.int .i64 0, .int .i64 0] : Array Value).size = 1 := by
      show i % 2 = 0 ∨ i % 2 = 1
      omega
    rcases this with e | e <;> rw [e] <;> rfl
  have hst := run_storeCells_cells (P := Try.prog) b o _ 0 w (by rw [hl]; simpa using hc) (by rw [hl]; simpa using hf) h1
  simp only [Nat.add_zero] at hst
  obtain ⟨m, rfl⟩ : ∃ m, n = m + 1 := ⟨n - 1, by omega⟩
  refine ⟨(Builtin.zeroCells #[Value.int .i64 0, .int .i64 0] (m + 1)).toList, ?_⟩
  have hv : (zeroValue 23).run Try.prog w = .ok (.agg #[.int .i64 0, .int .i64 0]) w := Try.zeroValue23 w
  have hcs : (Value.agg #[.int .i64 0, .int .i64 0]).cells = #[.int .i64 0, .int .i64 0] := rfl
  simp [Builtin.clear_, run_underlying Try.underlying53, hv, hcs, hst]
theorem comp_take_succ (l : List S23) (k : Nat) (h : k < l.length) : Geo.comp (l.take (k + 1)) = Geo.cstep (Geo.comp (l.take k)) l[k] := by
  rw [List.take_succ_eq_append_getElem h, Geo.comp_snoc]
theorem comp_take_last (l : List S23) (k : Nat) (h0 : 0 < k) (h : k ≤ l.length) : (Geo.comp (l.take k)).getLast? = some (l[k - 1]'(by omega)) := by
  obtain ⟨m, rfl⟩ : ∃ m, k = m + 1 := ⟨k - 1, by omega⟩
  rw [Geo.comp_last, List.take_succ_eq_append_getElem (by omega), List.getLast?_append]
  simp
theorem comp_skip (l : List S23) (k : Nat) (h0 : 0 < k) (h : k < l.length) (e : l[k] = l[k - 1]) : Geo.comp (l.take (k + 1)) = Geo.comp (l.take k) := by
  rw [comp_take_succ l k h, Geo.cstep, comp_take_last l k h0 (by omega), if_pos (by rw [e])]
theorem comp_keep (l : List S23) (k : Nat) (h0 : 0 < k) (h : k < l.length) (e : l[k] ≠ l[k - 1]) : Geo.comp (l.take (k + 1)) = Geo.comp (l.take k) ++ [l[k]] := by
  rw [comp_take_succ l k h, Geo.cstep, comp_take_last l k h0 (by omega), if_neg (by intro q; exact e (Option.some.inj q).symm)]
theorem comp_one (l : List S23) : Geo.comp (l.take 1) = l.take 1 := by
  cases l with
  | nil => rfl
  | cons x r => rfl
theorem eq_parts {a b : S23} : (a.f0 == b.f0 && (a.f1 == b.f1)) = decide (a = b) := by
  by_cases h : a = b
  · subst h; simp
  · rw [decide_eq_false h]
    by_cases h0 : a.f0 = b.f0
    · have : a.f1 ≠ b.f1 := fun h1 => h (S23.ext h0 h1)
      simp [this]
    · simp [h0]
theorem ne_parts {a b : S23} : (!(a.f0 == b.f0) || (!(a.f1 == b.f1))) = !decide (a = b) := by
  rw [← Bool.not_and, eq_parts]
structure CInv (base g cap : Nat) (w : World) (l : List S23) (m k : Nat) (W : World) (t : List S23) : Prop where
  len : t.length = l.length
  lt : k < m
  kept : t.take k = Geo.comp (l.take m)
  rest : ∀ (j : Nat) (h : j < l.length), m ≤ j + 1 → t[j]'(by omega) = l[j]
  row : Row2 W g cap t
  below : Below base w W
theorem CInv.drew {base g cap : Nat} {w : World} {l : List S23} {m k : Nat} {W : World} {t : List S23} (h : CInv base g cap w l m k W t) (n : Nat) : CInv base g cap w l m k (W.drewN n) t :=
  ⟨h.len, h.lt, h.kept, h.rest, h.row, h.below.trans (pw_below_drewN (Below.refl _ _) n)⟩
theorem CInv.skip {base g cap : Nat} {w : World} {l : List S23} {m k : Nat} {W : World} {t : List S23} (h : CInv base g cap w l m k W t) (h0 : 0 < m) (hm : m < l.length) (e : l[m] = l[m - 1]) : CInv base g cap w l (m + 1) k W t :=
  ⟨h.len, by have := h.lt; omega, by rw [comp_skip l m h0 hm e]; exact h.kept, fun j hj hm' => h.rest j hj (by omega), h.row, h.below⟩
theorem CInv.keep {base g cap : Nat} {w : World} {l : List S23} {m k : Nat} {W : World} {t : List S23} (h : CInv base g cap w l m k W t) (hb : base ≤ g) (h0 : 0 < m) (hm : m < l.length) (e : l[m] ≠ l[m - 1]) :
    CInv base g cap w l (m + 1) (k + 1) ((W.setCell ⟨g, k * 2, none⟩ (.int .i64 l[m].f0)).setCell ⟨g, k * 2 + 1, none⟩ (.int .i64 l[m].f1)) (t.set k l[m]) := by
  have hk := h.lt
  have hl := h.len
  refine ⟨by simp [hl], by omega, ?_, fun j hj hm' => ?_, h.row.set k (by omega) _, ((h.below.setCell (p := ⟨g, k * 2, none⟩) hb _).setCell (p := ⟨g, k * 2 + 1, none⟩) hb _)⟩
  · rw [comp_keep l m h0 hm e, ← h.kept, List.take_succ_eq_append_getElem (by simp; omega), List.getElem_set_self]
    congr 1
    rw [List.take_set_of_le (Nat.le_refl _)]
  · rw [List.getElem_set_ne (by omega)]
    exact h.rest j hj (by omega)
set_option maxRecDepth 100000 in
set_option maxHeartbeats 8000000 in
theorem compact_pts (g cap : Nat) (l : List S23) (w : World) (hr : Row2 w g cap l) (hlb : l.length < 4611686018427387904) (base : Nat) (hb : base ≤ g) :
    Calls Try.prog 111 #[.slice (some ⟨g, 0, none⟩) l.length cap] w fun e w' => e = .returned (.slice (some ⟨g, 0, none⟩) (Geo.comp l).length cap) ∧ Row2 w' g cap (Geo.comp l) ∧ Below base w w' := by
  have hle := hr.le
  obtain ⟨n, hn⟩ : ∃ n, l.length = n := ⟨_, rfl⟩
  rw [hn] at hle hlb ⊢
  by_cases h2 : n < 2
  · have hc : Geo.comp l = l := by
      match l, hn with
      | [], _ => rfl
      | [x], _ => rfl
      | _ :: _ :: _, h => simp at h; omega
    have HC := Aside0.mk hc
    have HN := Aside0.mk hn
    have HR := Aside0.mk hr
    have d1 : decide ((n : Int) < 2) = true := decide_eq_true (by omega)
    clear hc hn hr
    go_enter Try.func111, Try.ntmps111
    go_wp2
    go_ret
    exact ⟨by rw [HC.out, HN.out]; rfl, by rw [HC.out]; exact HR.out, Below.refl _ _⟩
  · have hn63 : n ≤ 4611686018427387903 := by omega
    have HN := Aside0.mk hn
    have HR := Aside0.mk hr
    have HLE := Aside0.mk hle
    clear hn hr hle
    have d1 : decide ((n : Int) < 2) = false := decide_eq_false (by omega)
    have d2 : ¬ ((n : Int) < 2) := by omega
    go_enter Try.func111, Try.ntmps111
    go_wp2
    go_loopg [3] n (fun gq v3 w' => ∃ k : Nat, v3 = .int .i64 k ∧ 1 ≤ k ∧ k ≤ n ∧ n - k ≤ gq ∧ Aside0 (Row2 w' g cap l) ∧ Aside0 (Below base w w') ∧ Aside0 (Geo.comp (l.take k) = l.take k))
    case atStart => exact ⟨1, rfl, Nat.le_refl _, by omega, by omega, HR, ⟨Below.refl _ _⟩, ⟨comp_one l⟩⟩
    case round =>
      clear HR
      obtain ⟨k, rfl, hk1, hk, hg, HR, HB, HC⟩ := hrel
      by_cases hlt : k < n
      · have hlk : k < l.length := by have := HN.out; omega
        obtain ⟨x0, x1⟩ := HR.out.cell k hlk
        obtain ⟨k1, hk1e⟩ : ∃ k1, k1 + 1 = k := ⟨k - 1, by omega⟩
        have hlk1 : k1 < l.length := by omega
        obtain ⟨y0, y1⟩ := HR.out.cell k1 hlk1
        have w1 : IntKind.i64.wrap ((k : Int) - 1) = (k1 : Int) := by rw [i64_w]; unfold wrap64; omega
        have w2 : wrap64 ((k : Int) - 1) = (k1 : Int) := by unfold wrap64; omega
        have l1 : k1 < n := by omega
        obtain ⟨x, hx⟩ : ∃ x, l[k] = x := ⟨_, rfl⟩
        obtain ⟨y, hyy⟩ : ∃ y, l[k1] = y := ⟨_, rfl⟩
        rw [hx] at x0 x1
        rw [hyy] at y0 y1
        have hy2 : l[k - 1]'(by omega) = y := by
          have q : k - 1 = k1 := by omega
          simp only [q]; exact hyy
        have HX : Aside0 (∃ (h1 : k < l.length) (h2 : k - 1 < l.length), l[k] = x ∧ l[k - 1] = y) := ⟨hlk, by omega, hx, hy2⟩
        have HK := Aside0.mk hlk
        clear hx hyy hy2 hk1e hlk hlk1
        have d3 : decide ((k : Int) < (n : Int)) = true := decide_eq_true (by omega)
        by_cases hdup : x = y
        · have e1 : (x.f0 == y.f0 && (x.f1 == y.f1)) = true := by rw [eq_parts]; exact decide_eq_true hdup
          have HD := Aside0.mk hdup
          clear hdup
          go_wp2
          have hkc : ¬ cap = k := by have := HLE.out; omega
          have hkc2 : ¬ k = cap := by omega
          have hkc3 : k ≤ cap := by have := HLE.out; omega
          have hkc4 : k ≤ n := by omega
          go_quiet (fail)
          go_wp2
          go_loopg [3, 5] n (fun gq v3 v5 w' => ∃ (kk k2 : Nat) (t : List S23), v3 = .int .i64 kk ∧ v5 = .int .i64 k2 ∧ 1 ≤ k2 ∧ k + k2 ≤ n ∧ n - (k + k2) ≤ gq ∧ Aside0 (CInv base g cap w l (k + k2) kk w' t))
          case atStart =>
            obtain ⟨h1, h2, rfl, rfl⟩ := HX.out
            have hc : Geo.comp (l.take (k + 1)) = l.take k := by rw [comp_skip l k (by omega) h1 HD.out, HC.out]
            exact ⟨k, 1, l, rfl, rfl, Nat.le_refl _, by omega, by omega, ⟨⟨rfl, by omega, hc.symm, fun _ _ _ => rfl, HR.out, HB.out.trans (pw_below_drewN (Below.refl _ _) _)⟩⟩⟩
          case round =>
            clear x0 x1 y0 y1 e1 l1 w1 w2 HR HB HC HX HD
            rename World => w2
            obtain ⟨kk, k2, t, rfl, rfl, h21, hle2, hg2, HI⟩ := hrel
            have hkk := HI.out.lt
            have htl : t.length = n := HI.out.len.trans HN.out
            by_cases hlt2 : k + k2 < n
            · obtain ⟨k3, rfl⟩ : ∃ k3, k2 = k3 + 1 := ⟨k2 - 1, by omega⟩
              have hq1 : k + (k3 + 1) < l.length := by have := HN.out; omega
              have hq2 : k + k3 < l.length := by omega
              obtain ⟨x0, x1⟩ := HI.out.row.cell (k + (k3 + 1)) (by omega)
              obtain ⟨y0, y1⟩ := HI.out.row.cell (k + k3) (by omega)
              rw [HI.out.rest _ hq1 (by omega)] at x0 x1
              rw [HI.out.rest _ hq2 (by omega)] at y0 y1
              obtain ⟨z0, z1⟩ := HI.out.row.cell kk (by omega)
              have f0 := HI.out.row.free (kk * 2)
              have f1 := HI.out.row.free (kk * 2 + 1)
              obtain ⟨u, hu⟩ : ∃ u, l[k + (k3 + 1)] = u := ⟨_, rfl⟩
              obtain ⟨v, hv⟩ : ∃ v, l[k + k3] = v := ⟨_, rfl⟩
              rw [hu] at x0 x1
              rw [hv] at y0 y1
              have HU : Aside0 (∃ (h1 : k + (k3 + 1) < l.length) (h2 : k + (k3 + 1) - 1 < l.length), l[k + (k3 + 1)] = u ∧ l[k + (k3 + 1) - 1] = v) := ⟨hq1, by omega, hu, hv⟩
              clear hu hv hq1 hq2
              generalize t[kk].f0 = o0 at z0
              generalize t[kk].f1 = o1 at z1
              rw [show (k + (k3 + 1)) * 2 = k * 2 + (k3 + 1) * 2 by omega] at x0 x1
              rw [show (k + k3) * 2 = k * 2 + k3 * 2 by omega] at y0 y1
              have w1 : IntKind.i64.wrap (((k3 + 1 : Nat) : Int) - 1) = (k3 : Int) := by rw [i64_w]; unfold wrap64; omega
              have w3 : wrap64 (((k3 + 1 : Nat) : Int) - 1) = (k3 : Int) := by unfold wrap64; omega
              have l1 : k3 + 1 < n - k := by omega
              have l2 : k3 < n - k := by omega
              have l3 : kk < n := by omega
              have HG := Aside0.mk (And.intro h21 (And.intro hle2 (And.intro hg2 (And.intro hkk (And.intro htl hlt2)))))
              clear h21 hle2 hg2 hkk htl hlt2
              by_cases huv : u = v
              · have e2 : (!(u.f0 == v.f0) || (!(u.f1 == v.f1))) = false := by rw [ne_parts]; simp [huv]
                have HUV := Aside0.mk huv
                clear huv
                go_wp2
                go_quiet (fail)
                go_wp2
                obtain ⟨h21, hle2, hg2, hkk, htl, hlt2⟩ := HG.out
                go_roundg (n - (k + (k3 + 1 + 1)))
                case measure => omega
                case rel =>
                  refine ⟨kk, k3 + 1 + 1, t, rfl, by go_num, by omega, by omega, Nat.le_refl _, ⟨?_⟩⟩
                  obtain ⟨q1, q2, rfl, rfl⟩ := HU.out
                  exact (HI.out.drew _).skip (by omega) q1 HUV.out
              · have e2 : (!(u.f0 == v.f0) || (!(u.f1 == v.f1))) = true := by rw [ne_parts]; simp [huv]
                have HUV := Aside0.mk huv
                clear huv
                go_wp2
                go_quiet (fail)
                go_wp2
                obtain ⟨h21, hle2, hg2, hkk, htl, hlt2⟩ := HG.out
                go_roundg (n - (k + (k3 + 1 + 1)))
                case measure => omega
                case rel =>
                  obtain ⟨q1, q2, rfl, rfl⟩ := HU.out
                  refine ⟨kk + 1, k3 + 1 + 1, t.set kk l[k + (k3 + 1)], by go_num, by go_num, by omega, by omega, Nat.le_refl _, ⟨?_⟩⟩
                  exact (HI.out.drew _).keep hb (by omega) q1 HUV.out
            · have hend : k + k2 = n := by omega
              have hI := HI.out
              rw [hend] at hI
              have hfin : t.take kk = Geo.comp l := by rw [hI.kept, List.take_of_length_le (by have := HN.out; omega)]
              have hkn : kk < n := hI.lt
              have HF := Aside0.mk hfin
              have HI2 := Aside0.mk hI
              have hcl := fun ty => run_clear_pts w2 ty g (kk * 2) (n - kk) (cap - kk) (by omega) (fun j hj => by
                rcases Nat.mod_two_eq_zero_or_one j with e | e
                · have := (hI.row.cell (kk + j / 2) (by omega)).1
                  rw [show kk * 2 + j = (kk + j / 2) * 2 by omega, this]; rfl
                · have := (hI.row.cell (kk + j / 2) (by omega)).2
                  rw [show kk * 2 + j = (kk + j / 2) * 2 + 1 by omega, this]; rfl) (fun j _ => hI.row.free _)
              clear hfin hI HI
              have q1 : ¬ cap = kk := by have := HLE.out; omega
              have q2 : ¬ kk = cap := by omega
              have q3 : kk ≤ cap := by have := HLE.out; omega
              have q4 : kk ≤ n := by omega
              have q5 : ¬ k2 < n - k := by omega
              obtain ⟨Z, hZ⟩ := hcl 0
              have hcl2 : ∀ ty, (Builtin.clear_ #[53] ty #[.slice (some ⟨g, kk * 2, none⟩) (n - kk) (cap - kk)]).run Try.prog w2 = .ok (.tuple #[]) (w2.setCells g (kk * 2) Z) := fun ty => by
                have : Builtin.clear_ #[53] ty #[.slice (some ⟨g, kk * 2, none⟩) (n - kk) (cap - kk)] = Builtin.clear_ #[53] 0 #[.slice (some ⟨g, kk * 2, none⟩) (n - kk) (cap - kk)] := rfl
                rw [this]; exact hZ
              clear hcl hZ hend hkk htl h21 hle2 hg2 hlt2
              go_wp2
              go_ret
              have hlen : (Geo.comp l).length = kk := by rw [← HF.out, List.length_take, HI2.out.len, HN.out]; omega
              refine ⟨by rw [hlen]; rfl, ?_, HI2.out.below.trans (below_setCells hb _ _ _)⟩
              rw [← HF.out]
              exact (HI2.out.row.take kk).beyonds Z _ _ (by rw [HF.out, hlen]; exact Nat.le_refl _)
        · have e1 : (x.f0 == y.f0 && (x.f1 == y.f1)) = false := by rw [eq_parts]; exact decide_eq_false hdup
          have HD := Aside0.mk hdup
          clear hdup
          go_wp2
          go_quiet (fail)
          go_wp2
          go_roundg (n - (k + 1))
          case measure => omega
          case rel =>
            refine ⟨k + 1, by go_num, by omega, by omega, Nat.le_refl _, ⟨HR.out⟩, ⟨HB.out.trans (pw_below_drewN (Below.refl _ _) _)⟩, ⟨?_⟩⟩
            obtain ⟨h1, h2, rfl, rfl⟩ := HX.out
            rw [comp_keep l k (by omega) h1 HD.out, HC.out, List.take_succ_eq_append_getElem h1]
      · obtain rfl : k = n := by omega
        have d3 : decide ((k : Int) < (k : Int)) = false := decide_eq_false (by omega)
        go_wp2
        go_ret
        have e : Geo.comp l = l := by have := HC.out; rwa [List.take_of_length_le (by have := HN.out; omega)] at this
        exact ⟨by rw [e, HN.out]; rfl, by rw [e]; exact HR.out, HB.out⟩
end Go.Proofs.Ytegdcnjjelgpjaa.P
namespace Go.Proofs.Ytegdcnjjelgpjaa.P
open Go.RowKit Go.Proofs.YtegdcnjjelgpjaaW.PrintWords Go.Proofs.YtegdcnjjelgpjaaW.PrintLast Go.Proofs.YtegdcnjjelgpjaaW.PrintMore
set_option linter.unusedVariables false
set_option linter.unusedSimpArgs false
set_option maxHeartbeats 1000000 in
set_option maxRecDepth 100000 in
theorem clone_some (ad : Addr) (c0 : Nat) (l0 : List S23) (w : World) (hr0 : Kd.C k23 w (some ad) l0.length l0) (hc0 : l0.length ≤ c0) (hl : l0.length < 8796093022208) :
    Calls Try.prog 108 #[.slice (some ad) l0.length c0] w fun e w' => ∃ v0_ : Value, e = .returned (v0_) ∧ Kd.R k23 23 w' w.heap.size (fun _ => True) v0_ l0 ∧ Below w.heap.size w w' := by
  have hu23 := Try.underlying23
  have q53 : ∀ (w : World) (a : Option Addr) (n c n' c' : Nat), (binOp .eql 53 (.slice a n c) (.slice none n' c')).run Try.prog w = .ok (.bool a.isNone) w := fun w a n c n' c' => Lib.run_eql_slice_nil w _ _ a n c n' c' Try.underlying53
  have HR0 := Aside0.mk hr0
  have HC0 := Aside0.mk hc0
  have HL := Aside0.mk hl
  clear hr0 hc0 hl
  have HB := Aside0.mk (Below.refl w.heap.size w)
  go_enter Try.func108, Try.ntmps108
  go_wp2_with (first | ((with_reducible refine gate_dst (N := 5) rfl ?_); (try (refine gate_guard (by rfl) ?_; dsimp only)); refine Kd.R_lit k23 _ 23 ?hg (N := 5) ?hd (xs := ([] : List (S23))) (inner := []) (ok := fun _ => True) (okp := fun _ => True) ?hr ?hp (fun _ hk => hk) trivial (Below.refl _ _) (Nat.le_refl _) (by simp) ?_; (case hd => rfl); (case hg => rfl); (case hr => first | (go_simp; done) | (go_simp; rfl)); (case hp => exact (Reps.none _ _)); intro v305 w42 ho43 hb hg_ hnew_; clear hg_ hnew_; have n0_ := Aside0.mk (Kd.R_lower ho43 (below_size (by repeat (first | exact HB.out | apply below_alloc | apply pw_below_drewN | apply below_drew1)))); have n2_ := Aside0.mk (below_step (by repeat (first | exact HB.out | apply below_alloc | apply pw_below_drewN | apply below_drew1)) hb); clear HB; have HO306 := n0_; have HB := n2_; clear n0_ n2_; clear hb ho43) | ((with_reducible refine gate_builtin (b := .append) (xs := #[.tmp 5, .tmp 6]) rfl ?_); (try (refine gate_guard (by rfl) ?_; dsimp only)); at_builtin; refine Kd.R_append_rows k23 (w0 := w) w.heap.size rfl (.tmp 5) (.tmp 6) 53 23 (.agg #[(.int .i64 0), (.int .i64 0)]) 16 rfl Try.underlying53 info23 rfl (by decide) (by omega) v305 [] l0 _ _ _ (fun _ => True) (fun _ => False) rfl rfl ?aO ?aR (fun _ _ h => h) (fun _ h => h.elim) ?aF ?aB ?aS ?aL ?_; (case aR => repeat (first | exact (Kd.C_below HR0.out HB.out) | (with_reducible refine Kd.C_alloc ?_ _) | (with_reducible refine Kd.C_drewN ?_ _) | (with_reducible refine Kd.C_drew ?_))); (case aB => exact (by repeat (first | exact HB.out | apply below_alloc | apply pw_below_drewN | apply below_drew1))); (case aF => exact (fun _ _ => trivial)); (case aO => exact (by (with_reducible repeat (first | apply Kd.R_alloc | apply Kd.R_drewN | apply Kd.R_drew)); exact HO306.out)); (case aS => exact (below_size (by repeat (first | exact HB.out | apply below_alloc | apply pw_below_drewN | apply below_drew1)))); (case aL => have := HL.out; simp only [List.length_nil]; omega); intro v308 w44 ho hb hg hat; simp only [List.nil_append] at ho; have n1_ := Aside0.mk (hb); have n2_ := Aside0.mk (ho); clear HB; clear HO306; have HB := n1_; have HO309 := n2_; clear n1_ n2_; clear ho hb hg hat; obtain ⟨Ao45, co45, eo45⟩ := Kd.R_slice HO309.out; subst eo45))
  go_ret
  exact ⟨_, rfl, HO309.out, HB.out⟩
end Go.Proofs.Ytegdcnjjelgpjaa.P
namespace Go.Proofs.Ytegdcnjjelgpjaa.P
open Go.RowKit Go.Proofs.YtegdcnjjelgpjaaW.PrintWords Go.Proofs.YtegdcnjjelgpjaaW.PrintLast Go.Proofs.YtegdcnjjelgpjaaW.PrintMore
attribute [local go_sem] max2_int min2_int max_two min_two max_three min_three max_four min_four   -- for this text's walks alone
set_option linter.unusedVariables false
set_option linter.unusedSimpArgs false
def plane_cross.f (a0_0 : Int) (a0_1 : Int) (a1_0 : Int) (a1_1 : Int) (a2_0 : Int) (a2_1 : Int) : Option (Int) := some (wrap64 ((wrap64 ((wrap64 (a1_0 - a0_0)) * (wrap64 (a2_1 - a0_1)))) - (wrap64 ((wrap64 (a1_1 - a0_1)) * (wrap64 (a2_0 - a0_0))))))
set_option maxHeartbeats 8000000 in
set_option maxRecDepth 100000 in
theorem plane_cross.calls (a0_0 : Int) (a0_1 : Int) (a1_0 : Int) (a1_1 : Int) (a2_0 : Int) (a2_1 : Int) (r : Int) (w : World) (h : plane_cross.f a0_0 a0_1 a1_0 a1_1 a2_0 a2_1 = some r) :
    Calls Try.prog 85 #[.agg #[.int .i64 a0_0, .int .i64 a0_1], .agg #[.int .i64 a1_0, .int .i64 a1_1], .agg #[.int .i64 a2_0, .int .i64 a2_1]] w fun e w' => e = .returned (.int .i64 r) ∧ Below w.heap.size w w' := by
  have hu23 := Try.underlying23
  have HB := Aside0.mk (Below.refl w.heap.size w)
  have H : (some (wrap64 ((wrap64 ((wrap64 (a1_0 - a0_0)) * (wrap64 (a2_1 - a0_1)))) - (wrap64 ((wrap64 (a1_1 - a0_1)) * (wrap64 (a2_0 - a0_0))))))) = some r := h
  clear h
  obtain rfl := Option.some.inj H
  go_enter Try.func85, Try.ntmps85
  go_wp2_with (first | ((with_reducible refine gate_dst (N := 3) rfl ?_); refine box_event ?hg (N := 3) ?hd (cs := #[.int .i64 a0_0, .int .i64 a0_1]) (t := 23) ?hr ?_; (case hd => rfl); (case hg => rfl); (case hr => first | (go_simp; done) | (go_simp; rfl)); intro gb101 hg w4 hbox hb; have n0_ := Aside0.mk (below_step (by repeat (first | (with_reducible first | exact HB.out | apply below_alloc | apply pw_below_drewN | apply below_drew1) | exact HB.out)) hb); have n1_ := Aside0.mk (hbox); have n2_ := Aside0.mk ((by rw [hg]; exact (below_size (by repeat (first | (with_reducible first | exact HB.out | apply below_alloc | apply pw_below_drewN | apply below_drew1) | exact HB.out))) : w.heap.size ≤ gb101)); have n3_ := Aside0.mk ((by rw [hg]; exact (below_size (by repeat (first | (with_reducible first | exact HB.out | apply below_alloc | apply pw_below_drewN | apply below_drew1) | exact HB.out))) : w.heap.size ≤ gb101)); clear HB; have HB := n0_; have BK101 := n1_; have GW101 := n2_; have GE101 := n3_; clear n0_ n1_ n2_ n3_; clear hb hbox hg) | ((with_reducible refine gate_dst (N := 4) rfl ?_); refine box_event ?hg (N := 4) ?hd (cs := #[.int .i64 a1_0, .int .i64 a1_1]) (t := 23) ?hr ?_; (case hd => rfl); (case hg => rfl); (case hr => first | (go_simp; done) | (go_simp; rfl)); intro gb102 hg w5 hbox hb; have n0_ := Aside0.mk (blk_below (g := gb101) (o := .cells #[.int .i64 a0_0, .int .i64 a0_1] 23 (0, 0)) (by (with_reducible repeat (first | refine blk_drewN ?_ _ | refine blk_drew ?_ | refine blk_alloc ?_ _)); exact BK101.out) hb); have n1_ := Aside0.mk (below_step (by repeat (first | (with_reducible first | exact HB.out | apply below_alloc | apply pw_below_drewN | apply below_drew1 | refine below_set ?_ GE101.out) | exact HB.out)) hb); have n2_ := Aside0.mk (hbox); have n3_ := Aside0.mk ((by rw [hg]; exact (below_size (by repeat (first | (with_reducible first | exact HB.out | apply below_alloc | apply pw_below_drewN | apply below_drew1 | refine below_set ?_ GE101.out) | exact HB.out))) : w.heap.size ≤ gb102)); have n4_ := Aside0.mk ((by rw [hg]; exact (below_size (by repeat (first | (with_reducible first | exact HB.out | apply below_alloc | apply pw_below_drewN | apply below_drew1 | refine below_set ?_ GE101.out) | exact HB.out))) : w.heap.size ≤ gb102)); have n5_ := Aside0.mk ((by rw [hg]; exact Nat.ne_of_lt (blk_lt (g := gb101) (o := .cells #[.int .i64 a0_0, .int .i64 a0_1] 23 (0, 0)) (by (with_reducible repeat (first | refine blk_drewN ?_ _ | refine blk_drew ?_ | refine blk_alloc ?_ _)); exact BK101.out)) : gb101 ≠ gb102)); have n6_ := Aside0.mk ((by rw [hg]; exact Nat.ne_of_gt (blk_lt (g := gb101) (o := .cells #[.int .i64 a0_0, .int .i64 a0_1] 23 (0, 0)) (by (with_reducible repeat (first | refine blk_drewN ?_ _ | refine blk_drew ?_ | refine blk_alloc ?_ _)); exact BK101.out)) : gb102 ≠ gb101)); clear BK101; clear HB; have BK101 := n0_; have HB := n1_; have BK102 := n2_; have GW102 := n3_; have GE102 := n4_; have NB101_102 := n5_; have NB102_101 := n6_; clear n0_ n1_ n2_ n3_ n4_ n5_ n6_; clear hb hbox hg) | ((with_reducible refine gate_dst (N := 5) rfl ?_); refine box_event ?hg (N := 5) ?hd (cs := #[.int .i64 a2_0, .int .i64 a2_1]) (t := 23) ?hr ?_; (case hd => rfl); (case hg => rfl); (case hr => first | (go_simp; done) | (go_simp; rfl)); intro gb103 hg w6 hbox hb; have n0_ := Aside0.mk (blk_below (g := gb101) (o := .cells #[.int .i64 a0_0, .int .i64 a0_1] 23 (0, 0)) (by (with_reducible repeat (first | refine blk_drewN ?_ _ | refine blk_drew ?_ | refine blk_alloc ?_ _)); exact BK101.out) hb); have n1_ := Aside0.mk (blk_below (g := gb102) (o := .cells #[.int .i64 a1_0, .int .i64 a1_1] 23 (0, 0)) (by (with_reducible repeat (first | refine blk_drewN ?_ _ | refine blk_drew ?_ | refine blk_alloc ?_ _)); exact BK102.out) hb); have n2_ := Aside0.mk (below_step (by repeat (first | (with_reducible first | exact HB.out | apply below_alloc | apply pw_below_drewN | apply below_drew1 | refine below_set ?_ GE101.out | refine below_set ?_ GE102.out) | exact HB.out)) hb); have n3_ := Aside0.mk (hbox); have n4_ := Aside0.mk ((by rw [hg]; exact (below_size (by repeat (first | (with_reducible first | exact HB.out | apply below_alloc | apply pw_below_drewN | apply below_drew1 | refine below_set ?_ GE101.out | refine below_set ?_ GE102.out) | exact HB.out))) : w.heap.size ≤ gb103)); have n5_ := Aside0.mk ((by rw [hg]; exact (below_size (by repeat (first | (with_reducible first | exact HB.out | apply below_alloc | apply pw_below_drewN | apply below_drew1 | refine below_set ?_ GE101.out | refine below_set ?_ GE102.out) | exact HB.out))) : w.heap.size ≤ gb103)); have n6_ := Aside0.mk ((by rw [hg]; exact Nat.ne_of_lt (blk_lt (g := gb101) (o := .cells #[.int .i64 a0_0, .int .i64 a0_1] 23 (0, 0)) (by (with_reducible repeat (first | refine blk_drewN ?_ _ | refine blk_drew ?_ | refine blk_alloc ?_ _)); exact BK101.out)) : gb101 ≠ gb103)); have n7_ := Aside0.mk ((by rw [hg]; exact Nat.ne_of_gt (blk_lt (g := gb101) (o := .cells #[.int .i64 a0_0, .int .i64 a0_1] 23 (0, 0)) (by (with_reducible repeat (first | refine blk_drewN ?_ _ | refine blk_drew ?_ | refine blk_alloc ?_ _)); exact BK101.out)) : gb103 ≠ gb101)); have n8_ := Aside0.mk ((by rw [hg]; exact Nat.ne_of_lt (blk_lt (g := gb102) (o := .cells #[.int .i64 a1_0, .int .i64 a1_1] 23 (0, 0)) (by (with_reducible repeat (first | refine blk_drewN ?_ _ | refine blk_drew ?_ | refine blk_alloc ?_ _)); exact BK102.out)) : gb102 ≠ gb103)); have n9_ := Aside0.mk ((by rw [hg]; exact Nat.ne_of_gt (blk_lt (g := gb102) (o := .cells #[.int .i64 a1_0, .int .i64 a1_1] 23 (0, 0)) (by (with_reducible repeat (first | refine blk_drewN ?_ _ | refine blk_drew ?_ | refine blk_alloc ?_ _)); exact BK102.out)) : gb103 ≠ gb102)); clear BK101; clear BK102; clear HB; have BK101 := n0_; have BK102 := n1_; have HB := n2_; have BK103 := n3_; have GW103 := n4_; have GE103 := n5_; have NB101_103 := n6_; have NB103_101 := n7_; have NB102_103 := n8_; have NB103_102 := n9_; clear n0_ n1_ n2_ n3_ n4_ n5_ n6_ n7_ n8_ n9_; clear hb hbox hg; have hnb7 := NB102_101.out; have hnc7 := NB101_102.out; have hnb8 := NB102_103.out; have hnc8 := NB103_102.out; have hcz9_0 : w6.cell? ⟨gb102, 0, none⟩ = some (.int .i64 a1_0) := (blk_cell BK102.out 0).trans rfl; have hcz9_1 : w6.cell? ⟨gb102, 1, none⟩ = some (.int .i64 a1_1) := (blk_cell BK102.out 1).trans rfl; have hfz9_0 := blk_frozen BK102.out 0; have hfz9_1 := blk_frozen BK102.out 1; have hnb10 := NB101_103.out; have hnc10 := NB103_101.out; have hcz11_0 : w6.cell? ⟨gb101, 0, none⟩ = some (.int .i64 a0_0) := (blk_cell BK101.out 0).trans rfl; have hcz11_1 : w6.cell? ⟨gb101, 1, none⟩ = some (.int .i64 a0_1) := (blk_cell BK101.out 1).trans rfl; have hfz11_0 := blk_frozen BK101.out 0; have hfz11_1 := blk_frozen BK101.out 1; have hcz12_0 : w6.cell? ⟨gb103, 0, none⟩ = some (.int .i64 a2_0) := (blk_cell BK103.out 0).trans rfl; have hcz12_1 : w6.cell? ⟨gb103, 1, none⟩ = some (.int .i64 a2_1) := (blk_cell BK103.out 1).trans rfl; have hfz12_0 := blk_frozen BK103.out 0; have hfz12_1 := blk_frozen BK103.out 1))
  go_ret
  exact ⟨by first | rfl | (simp [errW_none, errW_some] <;> rfl) | (simp [*, errW_none, errW_some] <;> rfl), by repeat (first | (with_reducible first | exact HB.out | apply below_alloc | apply pw_below_drewN | apply below_drew1 | refine below_set ?_ GE101.out | refine below_set ?_ GE102.out | refine below_set ?_ GE103.out) | exact HB.out)⟩
end Go.Proofs.Ytegdcnjjelgpjaa.P
namespace Go.Proofs.Ytegdcnjjelgpjaa.P
open Go.RowKit Go.Shelf Go.Proofs.Ytegdcnjjelgpjaa.O Go.Proofs.YtegdcnjjelgpjaaW.PrintWords Go.Proofs.YtegdcnjjelgpjaaW.PrintLast Go.Proofs.YtegdcnjjelgpjaaW.PrintMore
attribute [local go_sem] Oper.semAt_some
set_option linter.unusedVariables false
set_option linter.unusedSimpArgs false
def crW (a b c : S23) : Int := wrap64 (wrap64 (wrap64 (b.f0 - a.f0) * wrap64 (c.f1 - a.f1)) - wrap64 (wrap64 (b.f1 - a.f1) * wrap64 (c.f0 - a.f0)))
def rightW (a b c : S23) : Bool := decide (crW a b c ≤ 0)
set_option maxHeartbeats 1000000 in
theorem right_fn : DropFn 112 rightW := by
  refine ⟨enters_of Try.func112 (by kernel_rfl) rfl, fun a b c W => ?_⟩
  have hc := fun W' => plane_cross.calls a.f0 a.f1 b.f0 b.f1 c.f0 c.f1 (crW a b c) W' rfl
  unfold rightW
  generalize crW a b c = r at hc ⊢
  go_enter Try.func112, Try.ntmps112
  go_wp2_with (go_at_call 85; refine (hc _).mono ?_; rintro e w' ⟨rfl, hb⟩)
  go_ret
  exact ⟨rfl, ((((Below.refl _ _).alloc (Nat.le_refl _) _).alloc (by simp) _).alloc (by simp; omega) _).trans (hb.mono (by simp; omega))⟩
def bnd (l : List S23) : Bool := l.all fun p => decide (-67108864 ≤ p.f0 ∧ p.f0 ≤ 67108864) && decide (-67108864 ≤ p.f1 ∧ p.f1 ≤ 67108864)
def Bd (p : S23) : Prop := (-67108864 ≤ p.f0 ∧ p.f0 ≤ 67108864) ∧ (-67108864 ≤ p.f1 ∧ p.f1 ≤ 67108864)
theorem bnd_iff {l : List S23} : bnd l = true ↔ ∀ p ∈ l, Bd p := by
  simp [bnd, Bd, List.all_eq_true]
theorem ww {x : Int} (h0 : -9223372036854775808 ≤ x) (h1 : x ≤ 9223372036854775807) : wrap64 x = x := by unfold wrap64; omega
theorem mulA_bd {a b A : Int} (ha : -A ≤ a ∧ a ≤ A) (hb : -A ≤ b ∧ b ≤ A) : -(A * A) ≤ a * b ∧ a * b ≤ A * A := by
  have h1 : 0 ≤ (A - a) * (A + b) := Int.mul_nonneg (by omega) (by omega)
  have h2 : 0 ≤ (A + a) * (A - b) := Int.mul_nonneg (by omega) (by omega)
  have h3 : 0 ≤ (A - a) * (A - b) := Int.mul_nonneg (by omega) (by omega)
  have h4 : 0 ≤ (A + a) * (A + b) := Int.mul_nonneg (by omega) (by omega)
  have e1 : (A - a) * (A + b) = A * A + A * b - a * A - a * b := by grind
  have e2 : (A + a) * (A - b) = A * A - A * b + a * A - a * b := by grind
  have e3 : (A - a) * (A - b) = A * A - A * b - a * A + a * b := by grind
  have e4 : (A + a) * (A + b) = A * A + A * b + a * A + a * b := by grind
  constructor <;> omega
theorem crW_eq {a b c : S23} (ha : Bd a) (hb : Bd b) (hc : Bd c) : crW a b c = Geo.cr S23.f0 S23.f1 a b c := by
  obtain ⟨⟨a1, a2⟩, a3, a4⟩ := ha
  obtain ⟨⟨b1, b2⟩, b3, b4⟩ := hb
  obtain ⟨⟨c1, c2⟩, c3, c4⟩ := hc
  unfold crW Geo.cr
  have p1 := mulA_bd (a := b.f0 - a.f0) (b := c.f1 - a.f1) (A := 134217728) (by omega) (by omega)
  have p2 := mulA_bd (a := b.f1 - a.f1) (b := c.f0 - a.f0) (A := 134217728) (by omega) (by omega)
  rw [ww (x := b.f0 - a.f0) (by omega) (by omega), ww (x := c.f1 - a.f1) (by omega) (by omega), ww (x := b.f1 - a.f1) (by omega) (by omega), ww (x := c.f0 - a.f0) (by omega) (by omega)]
  rw [ww (x := (b.f0 - a.f0) * (c.f1 - a.f1)) (by omega) (by omega), ww (x := (b.f1 - a.f1) * (c.f0 - a.f0)) (by omega) (by omega), ww (by omega) (by omega)]
theorem pop_congr {bad bad' : S23 → S23 → S23 → Bool} {P : S23 → Prop} (h : ∀ a b c, P a → P b → P c → bad a b c = bad' a b c) (x : S23) (hx : P x) : ∀ st : List S23, (∀ y ∈ st, P y) → Geo.pop bad x st = Geo.pop bad' x st
  | [], _ => rfl
  | [_], _ => rfl
  | b :: a :: r, hs => by
    rw [Geo.pop, Geo.pop, h a b x (hs a (by simp)) (hs b (by simp)) hx]
    split
    · exact pop_congr h x hx (a :: r) fun y hy => hs y (by simp at hy ⊢; grind)
    · rfl
theorem chain_congr {bad bad' : S23 → S23 → S23 → Bool} {P : S23 → Prop} (h : ∀ a b c, P a → P b → P c → bad a b c = bad' a b c) : ∀ l st : List S23, (∀ y ∈ l, P y) → (∀ y ∈ st, P y) → Geo.chain bad l st = Geo.chain bad' l st
  | [], _, _, _ => rfl
  | x :: r, st, hl, hs => by
    have hx := hl x (by simp)
    rw [Geo.chain, Geo.chain, pop_congr h x hx st hs]
    exact chain_congr h r _ (fun y hy => hl y (by simp [hy])) fun y hy => by
      rcases List.mem_cons.1 hy with e | e
      · rw [e]; exact hx
      · exact hs y ((Geo.pop_sub bad' x st).subset e)
theorem chain_right {s : List S23} (h : ∀ p ∈ s, Bd p) : Geo.chain rightW s [] = Geo.chain (Geo.right S23.f0 S23.f1) s [] :=
  chain_congr (P := Bd) (fun a b c ha hb hc => by unfold rightW Geo.right; rw [crW_eq ha hb hc]) s [] h (by simp)
theorem inj23 : ∀ p q : S23, p.f0 = q.f0 → p.f1 = q.f1 → p = q := fun p q h0 h1 => S23.ext h0 h1
def hull (l : List S23) : List S23 := Geo.hullOf S23.f0 S23.f1 (Geo.sd S23.f0 S23.f1 l)
def plane_corners.f (l0 : List S23) : Option (List S23) := if 0 < l0.length ∧ l0.length ≤ 1048576 ∧ bnd l0 = true then some (hull l0) else none
set_option maxRecDepth 100000 in
set_option maxHeartbeats 8000000 in
theorem plane_corners.calls (A0 : Option Addr) (cA : Nat) (l0 : List (S23)) (r : List (S23)) (w : World) (hr0 : Kd.C k23 w A0 l0.length l0) (hc0 : l0.length ≤ cA) (h : plane_corners.f l0 = some r) :
    Calls Try.prog 92 #[.slice A0 l0.length cA] w fun e w' => ∃ v0_ : Value, e = .returned (v0_) ∧ Kd.R k23 23 w' w.heap.size (fun _ => True) v0_ r ∧ Below w.heap.size w w' := by
  unfold plane_corners.f at h
  split at h
  case isFalse => cases h
  rename_i hg
  obtain ⟨h0, hmx, hbd⟩ := hg
  obtain rfl := Option.some.inj h
  clear h
  obtain ⟨ad, rfl⟩ : ∃ ad, A0 = some ad := by
    obtain ⟨ad, _, e, _⟩ := Kd.C_get hr0 z23 0 (by omega) (by omega)
    exact ⟨ad, e⟩
  have c1 := callsIn_w (n := 0) (clone_some ad cA l0 w hr0 hc0 (by omega))
  obtain ⟨A0, hA0⟩ : ∃ A, some ad = A := ⟨_, rfl⟩
  rw [hA0] at c1 ⊢
  have HBD := Aside0.mk hbd
  have HL0 := Aside0.mk (And.intro h0 hmx)
  have C1 := Aside0.mk c1
  clear hA0 hr0 hc0 hbd c1
  refine (callsIn_wide (n := 0)).1 (callsIn_of_wp Try.func92 rfl trivial ?_ rfl)
  simp only [Try.ntmps92, List.size_toArray, List.length_cons, List.length_nil, Nat.reduceAdd, Nat.reduceSub, Array.replicate_succ, Array.replicate_zero, List.push_toArray, List.append_toArray, List.nil_append, List.cons_append]
  gi_wp2
  refine ⟨trivial, rfl, C1.out.mono ?_⟩
  rintro e W1 ⟨v1, rfl, hR1, hb1⟩
  obtain ⟨g, c0, rfl, hgb, _, row1⟩ := Row2.ofR hR1 (by intro e; rw [e] at h0; simp at h0)
  have HSo := Aside0.mk (callsIn_w (n := 0) (sort_pts g c0 l0 W1 row1 (by omega) w.heap.size hgb))
  have HB1 := Aside0.mk hb1
  have HGB := Aside0.mk hgb
  clear hR1 row1 hb1 hgb
  gi_wp2
  refine ⟨trivial, rfl, HSo.out.mono ?_⟩
  rintro e W2 ⟨rfl, l1, hlen1, hmem1, hsorted, row2, hb2⟩
  have HCo := Aside0.mk (callsIn_w (n := 0) (compact_pts g c0 l1 W2 row2 (by omega) w.heap.size HGB.out))
  rw [hlen1] at HCo
  have hsd : Geo.comp l1 = Geo.sd S23.f0 S23.f1 l0 := Geo.comp_sd inj23 hsorted hmem1
  rw [hsd] at HCo
  have HB2 := Aside0.mk (HB1.out.trans hb2)
  clear hlen1 hmem1 hsorted row2 hb2 hsd HSo HB1
  gi_wp2
  refine ⟨trivial, rfl, HCo.out.mono ?_⟩
  rintro e W3 ⟨rfl, row3, hb3⟩
  have hsdl := Geo.sd_length (X := S23.f0) (Y := S23.f1) l0
  have hsds := Geo.sd_sorted (X := S23.f0) (Y := S23.f1) inj23 l0
  have hsdb : ∀ p ∈ Geo.sd S23.f0 S23.f1 l0, Bd p := fun p hp => bnd_iff.1 HBD.out p (Geo.sd_mem.1 hp)
  have hsdn : Geo.sd S23.f0 S23.f1 l0 ≠ [] := Geo.sd_ne (by intro e; rw [e] at h0; simp at h0)
  obtain ⟨s, hs⟩ : ∃ s, Geo.sd S23.f0 S23.f1 l0 = s := ⟨_, rfl⟩
  have hhull : hull l0 = Geo.hullOf S23.f0 S23.f1 s := by unfold hull; rw [hs]
  rw [hs] at row3 hsdl hsds hsdb hsdn
  obtain ⟨n, hn⟩ : ∃ n, s.length = n := ⟨_, rfl⟩
  rw [hs, hn]
  have HH := Aside0.mk hhull
  have HB3 := Aside0.mk (HB2.out.trans hb3)
  have HS := Aside0.mk (And.intro hsds (And.intro hsdb (And.intro hsdn hn)))
  have HR3 := Aside0.mk row3
  have HN := Aside0.mk (show n ≤ 1048576 by omega)
  clear hs hhull hb3 hsds hsdb hsdn hn row3 HCo HB2 HBD hsdl h0 hmx
  by_cases h2 : n < 2
  · have d1 : decide ((n : Int) < 2) = true := decide_eq_true (by omega)
    gi_wp2
    go_ret
    refine ⟨_, rfl, ?_, HB3.out⟩
    have hlt : s.length < 2 := by have := HS.out.2.2.2; omega
    rw [HH.out, Geo.hullOf, if_pos hlt, ← HS.out.2.2.2]
    exact HR3.out.toR HGB.out trivial
  · have d1 : decide ((n : Int) < 2) = false := decide_eq_false (by omega)
    have HN2 := Aside0.mk h2
    clear h2
    gi_wp2
    refine ⟨trivial, rfl, (values_make _ _ _ _).mono ?_⟩
    rintro e W4 ⟨rfl, hW4⟩
    have hb4 : Below W3.heap.size W3 W4 := by rw [hW4]; exact (Below.refl _ _).alloc (Nat.le_refl _) _
    have hs4 : W4.heap[W3.heap.size]? = some (.cells #[.slice (some ⟨g, 0, none⟩) n c0] 53 (0, 0)) := by rw [hW4]; exact blk_new _ _
    have row4 := HR3.out.below hb4 HR3.out.lt
    have hC4 : Kd.C k23 W4 (some ⟨g, 0, none⟩) s.length s := by
      obtain ⟨A, c, e, _, hC⟩ := Kd.R_reads (row4.toR (ok := fun _ => True) (Nat.le_refl g) trivial)
      cases e; exact hC
    have HST := Aside0.mk (stack_in 126 112 #[.pointer (some ⟨W3.heap.size, 0, none⟩)] s rightW W4 (enters_of Try.func126 (by kernel_rfl) rfl) (values_seq W3.heap.size c0 _ s W4 (by rw [HS.out.2.2.2]; exact hs4) hC4) right_fn (by have := HS.out.2.2.2; have := HN.out; omega))
    have HB4 := Aside0.mk (HB3.out.trans (hb4.mono HB3.out.size))
    have HR4 := Aside0.mk row4
    clear hs4 hC4 hW4 hb4 row4
    gi_wp2
    refine ⟨trivial, rfl, HST.out.mono ?_⟩
    rintro e W5 ⟨v5, rfl, ho5, hb5⟩
    rw [chain_right HS.out.2.1] at ho5
    obtain ⟨low, hlow⟩ : ∃ x, Geo.lowC S23.f0 S23.f1 s = x := ⟨_, rfl⟩
    rw [show (Geo.chain (Geo.right S23.f0 S23.f1) s []).reverse = low from hlow] at ho5
    have hlne : low ≠ [] := by
      rw [← hlow]; unfold Geo.lowC
      intro e
      exact Geo.chain_ne _ s [] (.inr HS.out.2.2.1) (List.reverse_eq_nil_iff.1 e)
    have row5 := HR4.out.below hb5 HR4.out.lt
    obtain ⟨gl, cl, rfl, hgl, rowl⟩ : ∃ gl cl, v5 = .slice (some ⟨gl, 0, none⟩) low.length cl ∧ W4.heap.size ≤ gl ∧ Row2 W5 gl cl low := by
      rcases ho5 with ⟨_, h⟩ | ⟨gl, cl, e, h1, h2⟩
      · exact absurd h hlne
      · exact ⟨gl, cl, e, h1, h2⟩
    obtain ⟨nl, hnl⟩ : ∃ n, low.length = n := ⟨_, rfl⟩
    rw [hnl]
    have HB5 := Aside0.mk (HB4.out.trans (hb5.mono HB4.out.size))
    have HRV := Aside0.mk (callsIn_w (n := 0) (reverse_pts g c0 s W5 row5 (by have := HS.out.2.2.2; have := HN.out; omega) (List.length_pos_iff.2 HS.out.2.2.1)))
    rw [HS.out.2.2.2] at HRV
    have HGL := Aside0.mk (show g < gl by have := HR4.out.lt; omega)
    have HLW := Aside0.mk (And.intro hlow (And.intro hlne hnl))
    have HRL := Aside0.mk rowl
    clear ho5 hb5 hlow hlne hnl hgl row5 rowl HST
    gi_wp2
    refine ⟨trivial, rfl, HRV.out.mono ?_⟩
    rintro e W6 ⟨rfl, row6, hb6, hfar⟩
    have rowl6 := HRL.out.move (hfar gl (by have := HGL.out; omega) HRL.out.lt)
    have HB6 := Aside0.mk (HB5.out.trans (hb6.mono HGB.out))
    have HR6 := Aside0.mk row6
    have HRL6 := Aside0.mk rowl6
    clear row6 hb6 hfar rowl6 HRL HRV
    gi_wp2
    refine ⟨trivial, rfl, (values_make _ _ _ _).mono ?_⟩
    rintro e W7 ⟨rfl, hW7⟩
    have hb7 : Below W6.heap.size W6 W7 := by rw [hW7]; exact (Below.refl _ _).alloc (Nat.le_refl _) _
    have hs7 : W7.heap[W6.heap.size]? = some (.cells #[.slice (some ⟨g, 0, none⟩) n c0] 53 (0, 0)) := by rw [hW7]; exact blk_new _ _
    have row7 := HR6.out.below hb7 HR6.out.lt
    have rowl7 := HRL6.out.below hb7 HRL6.out.lt
    have hC7 : Kd.C k23 W7 (some ⟨g, 0, none⟩) s.reverse.length s.reverse := by
      obtain ⟨A, c, e, _, hC⟩ := Kd.R_reads (row7.toR (ok := fun _ => True) (Nat.le_refl g) trivial)
      cases e; exact hC
    have HST := Aside0.mk (stack_in 126 112 #[.pointer (some ⟨W6.heap.size, 0, none⟩)] s.reverse rightW W7 (enters_of Try.func126 (by kernel_rfl) rfl) (values_seq W6.heap.size c0 _ s.reverse W7 (by rw [List.length_reverse, HS.out.2.2.2]; exact hs7) hC7) right_fn (by rw [List.length_reverse]; have := HS.out.2.2.2; have := HN.out; omega))
    have HB7 := Aside0.mk (HB6.out.trans (hb7.mono HB6.out.size))
    have HRL7 := Aside0.mk rowl7
    clear hs7 hC7 hW7 hb7 row7 rowl7
    gi_wp2
    refine ⟨trivial, rfl, HST.out.mono ?_⟩
    rintro e W9 ⟨v9, rfl, ho9, hb9⟩
    rw [chain_right (fun p hp => HS.out.2.1 p (List.mem_reverse.1 hp))] at ho9
    obtain ⟨high, hhigh⟩ : ∃ x, Geo.highC S23.f0 S23.f1 s = x := ⟨_, rfl⟩
    rw [show (Geo.chain (Geo.right S23.f0 S23.f1) s.reverse []).reverse = high from hhigh] at ho9
    have hhne : high ≠ [] := by
      rw [← hhigh]; unfold Geo.highC
      intro e
      exact Geo.chain_ne _ s.reverse [] (.inr (by simpa using HS.out.2.2.1)) (List.reverse_eq_nil_iff.1 e)
    obtain ⟨gh, ch, rfl, hgh, rowh⟩ : ∃ gl cl, v9 = .slice (some ⟨gl, 0, none⟩) high.length cl ∧ W7.heap.size ≤ gl ∧ Row2 W9 gl cl high := by
      rcases ho9 with ⟨_, h⟩ | ⟨gl, cl, e, h1, h2⟩
      · exact absurd h hhne
      · exact ⟨gl, cl, e, h1, h2⟩
    obtain ⟨nh, hnh⟩ : ∃ n, high.length = n := ⟨_, rfl⟩
    rw [hnh]
    have rowl9 := HRL7.out.below hb9 HRL7.out.lt
    have hw9 : Below w.heap.size w W9 := HB7.out.trans (hb9.mono HB7.out.size)
    have hll := chain_len (Geo.right S23.f0 S23.f1) s []
    have hlh := chain_len (Geo.right S23.f0 S23.f1) s.reverse []
    have hll2 : low.length ≤ n := by rw [← HLW.out.1]; unfold Geo.lowC; rw [List.length_reverse, ← HS.out.2.2.2]; simpa using hll
    have hlh2 : high.length ≤ n := by rw [← hhigh]; unfold Geo.highC; rw [List.length_reverse, ← HS.out.2.2.2]; simpa using hlh
    obtain ⟨kl, hkl⟩ : ∃ k, k + 1 = nl := ⟨nl - 1, by have := List.length_pos_iff.2 HLW.out.2.1; have := HLW.out.2.2; omega⟩
    obtain ⟨kh, hkh⟩ : ∃ k, k + 1 = nh := ⟨nh - 1, by have := List.length_pos_iff.2 hhne; omega⟩
    obtain ⟨L, hL⟩ : ∃ L, low.take kl = L := ⟨_, rfl⟩
    obtain ⟨M, hM⟩ : ∃ M, high.take kh = M := ⟨_, rfl⟩
    have hLl : L.length = kl := by rw [← hL, List.length_take]; have := HLW.out.2.2; omega
    have hMl : M.length = kh := by rw [← hM, List.length_take]; omega
    have hrL := rowl9.take kl
    have hrM := rowh.take kh
    rw [hL] at hrL
    rw [hM] at hrM
    have HLo : Aside0 (OutV W9 w.heap.size (.slice (some ⟨gl, 0, none⟩) kl cl) L) := ⟨.inr ⟨gl, cl, by rw [hLl], by have := HGL.out; have := HGB.out; omega, hrL⟩⟩
    have HMr := Aside0.mk hrM
    have HKH := Aside0.mk hMl.symm
    have HLM : Aside0 (L.length + M.length ≤ 8796093022208) := ⟨by have := HN.out; have := HLW.out.2.2; omega⟩
    have hfin : hull l0 = L ++ M := by
      have hl2 : ¬ s.length < 2 := by have := HN2.out; have := HS.out.2.2.2; omega
      have e1 : low.dropLast = L := by rw [← hL, List.dropLast_eq_take]; congr 1; have := HLW.out.2.2; omega
      have e2 : high.dropLast = M := by rw [← hM, List.dropLast_eq_take]; congr 1; omega
      rw [HH.out, Geo.hullOf, if_neg hl2, HLW.out.1, hhigh, e1, e2]
    have HF := Aside0.mk hfin
    have z1 := rowl9.le
    have z2 := rowh.le
    have l1 : kl ≤ cl := by have := HLW.out.2.2; omega
    have l2 : kh ≤ ch := by omega
    have b1 : nl ≤ 1048576 := by have := HN.out; have := HLW.out.2.2; omega
    have b2 : nh ≤ 1048576 := by have := HN.out; omega
    have w1 : IntKind.i64.wrap ((nl : Int) - 1) = (kl : Int) := by rw [i64_w]; unfold wrap64; omega
    have w2 : IntKind.i64.wrap ((nh : Int) - 1) = (kh : Int) := by rw [i64_w]; unfold wrap64; omega
    clear hfin hrL hrM hL hM hLl hMl hkl hkh hll hlh hll2 hlh2 hhigh hhne hnh rowl9 rowh ho9 hb9 z1 z2 hgh HST HRL7 b1 b2
    gi_wp2
    refine wpIn_region_any (by kernel_rfl) ?_
    change wpAnyIn _ _ _ _ _ _ _ _ _ (World.drew W9)
    refine wpAnyIn_inv (fun listed a V' => ∃ vr, a = { tmps := (.slice A0 l0.length cA :: undef :: selOr listed 11 (vr) (.slice none 0 0) :: .slice (some ⟨g, 0, none⟩) n c0 :: .func (.func 112) #[] #[] :: .slice (some ⟨gl, 0, none⟩) nl cl :: .slice (some ⟨gh, 0, none⟩) nh ch :: .slice A0 l0.length cA :: .slice (some ⟨g, 0, none⟩) l0.length c0 :: .slice (some ⟨g, 0, none⟩) l0.length c0 :: .tuple #[] :: .slice (some ⟨g, 0, none⟩) l0.length c0 :: .slice (some ⟨g, 0, none⟩) n c0 :: .slice (some ⟨g, 0, none⟩) n c0 :: .int .i64 (n : Int) :: .bool false :: undef :: .slice (some ⟨g, 0, none⟩) n c0 :: .func (.func 126) #[] #[.pointer (some ⟨W3.heap.size, 0, none⟩)] :: .func (.func 112) #[] #[] :: .slice (some ⟨gl, 0, none⟩) nl cl :: .slice (some ⟨g, 0, none⟩) n c0 :: .tuple #[] :: .slice (some ⟨g, 0, none⟩) n c0 :: .func (.func 126) #[] #[.pointer (some ⟨W6.heap.size, 0, none⟩)] :: .func (.func 112) #[] #[] :: .slice (some ⟨gh, 0, none⟩) nh ch :: selOr listed 0 (.slice (some ⟨gl, 0, none⟩) nl cl) undef :: selOr listed 1 (.slice (some ⟨gl, 0, none⟩) nl cl) undef :: selOr listed 2 (.int .i64 (nl : Int)) undef :: selOr listed 3 (.int .i64 (kl : Int)) undef :: selOr listed 4 (.slice (some ⟨gl, 0, none⟩) kl cl) undef :: selOr listed 5 (.slice (some ⟨gh, 0, none⟩) nh ch) undef :: selOr listed 6 (.slice (some ⟨gh, 0, none⟩) nh ch) undef :: selOr listed 7 (.int .i64 (nh : Int)) undef :: selOr listed 8 (.int .i64 (kh : Int)) undef :: selOr listed 9 (.slice (some ⟨gh, 0, none⟩) kh ch) undef :: selOr listed 10 (vr) undef :: []).toArray, defers := [] } ∧ Below w.heap.size w V' ∧ (listed.getD 10 false = false → Below W9.heap.size W9 V') ∧ (listed.getD 10 false = true → OutV V' w.heap.size vr (L ++ M))) 19 ?stepq ?stopq ?finq 12 _ _ _ (by simp) (closed_none _) ⟨undef, by simp [selOr], hw9.drew, fun _ => (Below.refl _ _).drew, fun h => by simp at h⟩ (by simp)
    case stopq =>
      intro listed a V' fuel hs hc hi hr
      have := (ready_lt hr).1
      simp at hs
      omega
    case stepq =>
      rintro listed a V' i hs hc ⟨vr, rfl, q0, q1, q2⟩ hr hne K hK
      obtain ⟨hlt', hl0⟩ := ready_lt hr
      have hi : i = 0 ∨ i = 1 ∨ i = 2 ∨ i = 3 ∨ i = 4 ∨ i = 5 ∨ i = 6 ∨ i = 7 ∨ i = 8 ∨ i = 9 ∨ i = 10 ∨ i = 11 := by simp at hs; omega
      rcases hi with rfl | rfl | rfl | rfl | rfl | rfl | rfl | rfl | rfl | rfl | rfl | rfl
      · skip
        refine wpOpIn_of rfl rfl ?_
        clear hr hl0
        gi_wp2
        refine ⟨vr, ?_, q0, (fun h => q1 (by rw [getD_other hlt' (by decide)] at h; exact h)), fun h => q2 (by rw [getD_other hlt' (by decide)] at h; exact h)⟩
        simp (disch := decide) only [selOr_same hlt', selOr_other hlt']
      · skip
        refine wpOpIn_of rfl rfl ?_
        clear hr hl0
        gi_wp2
        refine ⟨vr, ?_, q0, (fun h => q1 (by rw [getD_other hlt' (by decide)] at h; exact h)), fun h => q2 (by rw [getD_other hlt' (by decide)] at h; exact h)⟩
        simp (disch := decide) only [selOr_same hlt', selOr_other hlt']
      · have d1 : listed.getD 1 false = true := ready_after hr rfl { on := 1, ground := .data } (by simp) rfl
        simp only [selOr_on d1]
        refine wpOpIn_of rfl rfl ?_
        clear hr hl0
        gi_wp2
        refine ⟨vr, ?_, q0, (fun h => q1 (by rw [getD_other hlt' (by decide)] at h; exact h)), fun h => q2 (by rw [getD_other hlt' (by decide)] at h; exact h)⟩
        simp (disch := decide) only [selOr_same hlt', selOr_other hlt', selOr_on d1]
      · have d2 : listed.getD 2 false = true := ready_after hr rfl { on := 2, ground := .data } (by simp) rfl
        simp only [selOr_on d2]
        refine wpOpIn_of rfl rfl ?_
        clear hr hl0
        gi_wp2
        refine ⟨vr, ?_, q0, (fun h => q1 (by rw [getD_other hlt' (by decide)] at h; exact h)), fun h => q2 (by rw [getD_other hlt' (by decide)] at h; exact h)⟩
        simp (disch := decide) only [selOr_same hlt', selOr_other hlt', selOr_on d2]
      · have d0 : listed.getD 0 false = true := ready_after hr rfl { on := 0, ground := .data } (by simp) rfl
        have d3 : listed.getD 3 false = true := ready_after hr rfl { on := 3, ground := .data } (by simp) rfl
        simp only [selOr_on d0, selOr_on d3]
        refine wpOpIn_of rfl rfl ?_
        clear hr hl0
        gi_wp2
        refine ⟨vr, ?_, q0, (fun h => q1 (by rw [getD_other hlt' (by decide)] at h; exact h)), fun h => q2 (by rw [getD_other hlt' (by decide)] at h; exact h)⟩
        simp (disch := decide) only [selOr_same hlt', selOr_other hlt', selOr_on d0, selOr_on d3]
      · skip
        refine wpOpIn_of rfl rfl ?_
        clear hr hl0
        gi_wp2
        refine ⟨vr, ?_, q0, (fun h => q1 (by rw [getD_other hlt' (by decide)] at h; exact h)), fun h => q2 (by rw [getD_other hlt' (by decide)] at h; exact h)⟩
        simp (disch := decide) only [selOr_same hlt', selOr_other hlt']
      · skip
        refine wpOpIn_of rfl rfl ?_
        clear hr hl0
        gi_wp2
        refine ⟨vr, ?_, q0, (fun h => q1 (by rw [getD_other hlt' (by decide)] at h; exact h)), fun h => q2 (by rw [getD_other hlt' (by decide)] at h; exact h)⟩
        simp (disch := decide) only [selOr_same hlt', selOr_other hlt']
      · have d6 : listed.getD 6 false = true := ready_after hr rfl { on := 6, ground := .data } (by simp) rfl
        simp only [selOr_on d6]
        refine wpOpIn_of rfl rfl ?_
        clear hr hl0
        gi_wp2
        refine ⟨vr, ?_, q0, (fun h => q1 (by rw [getD_other hlt' (by decide)] at h; exact h)), fun h => q2 (by rw [getD_other hlt' (by decide)] at h; exact h)⟩
        simp (disch := decide) only [selOr_same hlt', selOr_other hlt', selOr_on d6]
      · have d7 : listed.getD 7 false = true := ready_after hr rfl { on := 7, ground := .data } (by simp) rfl
        simp only [selOr_on d7]
        refine wpOpIn_of rfl rfl ?_
        clear hr hl0
        gi_wp2
        refine ⟨vr, ?_, q0, (fun h => q1 (by rw [getD_other hlt' (by decide)] at h; exact h)), fun h => q2 (by rw [getD_other hlt' (by decide)] at h; exact h)⟩
        simp (disch := decide) only [selOr_same hlt', selOr_other hlt', selOr_on d7]
      · have d5 : listed.getD 5 false = true := ready_after hr rfl { on := 5, ground := .data } (by simp) rfl
        have d8 : listed.getD 8 false = true := ready_after hr rfl { on := 8, ground := .data } (by simp) rfl
        simp only [selOr_on d5, selOr_on d8]
        refine wpOpIn_of rfl rfl ?_
        clear hr hl0
        gi_wp2
        refine ⟨vr, ?_, q0, (fun h => q1 (by rw [getD_other hlt' (by decide)] at h; exact h)), fun h => q2 (by rw [getD_other hlt' (by decide)] at h; exact h)⟩
        simp (disch := decide) only [selOr_same hlt', selOr_other hlt', selOr_on d5, selOr_on d8]
      · have d4 : listed.getD 4 false = true := ready_after hr rfl { on := 4, ground := .data } (by simp) rfl
        have d9 : listed.getD 9 false = true := ready_after hr rfl { on := 9, ground := .data } (by simp) rfl
        simp only [selOr_on d4, selOr_on d9]
        refine wpOpIn_of rfl rfl ?_
        have hq := q1 hl0
        refine opIn_append_pts V' _ _ rfl w.heap.size _ L rfl (HLo.out.below hq) gh kh ch M rfl HKH.out (HMr.out.below hq HMr.out.lt) HLM.out q0.size ?_
        intro v' W2 ho2 hg2 hat2
        refine hK _ _ ⟨v', ?_, q0.trans ((Below.refl _ _).grown hg2 q0.size fun k hk => (HLo.out.lt k hk).2), fun h => (by rw [getD_same hlt'] at h; cases h), fun _ => ho2⟩
        have n11 : listed.getD 11 false = false := by
          cases q : listed.getD 11 false
          · rfl
          · have := hc 11 _ rfl q { on := 10, ground := .data } (by simp) rfl
            rw [hl0] at this; cases this
        have e11 : ∀ v u, selOr listed 11 v u = u := fun v u => if_neg (by rw [n11]; decide)
        show Act.put _ (some 37) _ = _
        simp only [Act.put, List.setIfInBounds_toArray, List.set_cons_zero, List.set_cons_succ, e11]
        simp (disch := decide) only [selOr_same hlt', selOr_other hlt', selOr_on d4, selOr_on d9]
        simp only [e11]
      · have d10 : listed.getD 10 false = true := ready_after hr rfl { on := 10, ground := .data } (by simp) rfl
        simp only [selOr_on d10]
        refine wpOpIn_of rfl rfl ?_
        clear hr hl0
        gi_wp2
        refine ⟨vr, ?_, q0, (fun h => q1 (by rw [getD_other hlt' (by decide)] at h; exact h)), fun h => q2 (by rw [getD_other hlt' (by decide)] at h; exact h)⟩
        simp (disch := decide) only [selOr_same hlt', selOr_other hlt', selOr_on d10]
    case finq =>
      rintro listed a V' hs ⟨vr, rfl, q0, q1, q2⟩ hr
      have all : ∀ j, j < 12 → listed.getD j false = true := fun j hj => by
        cases q : listed.getD j false
        · exact absurd hr (ready_ne hs (by kernel_rfl) j (by simpa using hj) q)
        · rfl
      simp only [selOr_on (all 0 (by decide)), selOr_on (all 1 (by decide)), selOr_on (all 2 (by decide)), selOr_on (all 3 (by decide)), selOr_on (all 4 (by decide)), selOr_on (all 5 (by decide)), selOr_on (all 6 (by decide)), selOr_on (all 7 (by decide)), selOr_on (all 8 (by decide)), selOr_on (all 9 (by decide)), selOr_on (all 10 (by decide)), selOr_on (all 11 (by decide))]
      clear hr hs
      gi_wp2
      go_ret
      refine ⟨vr, rfl, ?_, q0⟩
      rw [HF.out]
      exact (q2 (all 10 (by decide))).toR fun _ _ => trivial
end Go.Proofs.Ytegdcnjjelgpjaa.P
namespace Go.Proofs.Ytegdcnjjelgpjaa.P
open Go.RowKit Go.Proofs.YtegdcnjjelgpjaaW.PrintWords Go.Proofs.YtegdcnjjelgpjaaW.PrintLast Go.Proofs.YtegdcnjjelgpjaaW.PrintMore
attribute [local go_sem] max2_int min2_int max_two min_two max_three min_three max_four min_four   -- for this text's walks alone
set_option linter.unusedVariables false
set_option linter.unusedSimpArgs false
mutual
def plane_checkPoints.l0 : Nat → List (List (S23)) → List (List (S23)) → Int → Int → Option (Int)
  | 0, _, _, _, _ => none
  | k + 1, x0, x7, x8, x9 => if x9 < x8 then (if 0 ≤ x9 then (if x9 < (x7.length : Int) then (if ((rd_L2 x7 x9).length : Int) > 256 then (some 6) else (plane_checkPoints.l0 k x0 x7 x8 (wrap64 (x9 + 1)))) else (none)) else (none)) else (plane_checkPoints.l1 k x0 (x0.length : Int) 0)
def plane_checkPoints.l1 : Nat → List (List (S23)) → Int → Int → Option (Int)
  | 0, _, _, _ => none
  | k + 1, x17, x18, x19 => if x19 < x18 then (if 0 ≤ x19 then (if x19 < (x17.length : Int) then ((plane_valid.f k (rd_L2 x17 x19)).bind fun t103 => (if t103 = true then (plane_checkPoints.l1 k x17 x18 (wrap64 (x19 + 1))) else (some 2))) else (none)) else (none)) else (some 0)
end
def plane_checkPoints.f (k : Nat) (l0 : List (List (S23))) : Option (Int) := plane_checkPoints.l0 k l0 l0 (l0.length : Int) 0
theorem plane_checkPoints.mono_l : ∀ k, (∀ y0 y1 y2 y3, LeO (plane_checkPoints.l0 k y0 y1 y2 y3) (plane_checkPoints.l0 (k + 1) y0 y1 y2 y3)) ∧ (∀ y0 y1 y2, LeO (plane_checkPoints.l1 k y0 y1 y2) (plane_checkPoints.l1 (k + 1) y0 y1 y2))
  | 0 => ⟨fun _ _ _ _ r h => by simp [plane_checkPoints.l0] at h, fun _ _ _ r h => by simp [plane_checkPoints.l1] at h⟩
  | k + 1 => by
    obtain ⟨ih0, ih1⟩ := plane_checkPoints.mono_l k
    refine ⟨?_, ?_⟩
    · intro y0 y1 y2 y3
      unfold plane_checkPoints.l0
      repeat' first
      | (with_reducible exact ih0 _ _ _ _)
      | (with_reducible exact ih1 _ _ _)
      | (with_reducible exact plane_valid.mono _ _)
      | (with_reducible exact LeO.refl _)
      | (with_reducible exact LeO.none _)
      | (with_reducible refine LeO.ite ?_ ?_)
      | (with_reducible refine LeO.bind ?_ (fun _ => ?_))
      | exact ih0 _ _ _ _
      | exact ih1 _ _ _
      | exact plane_valid.mono _ _
      | exact LeO.none _
      | refine LeO.ite ?_ ?_
      | refine LeO.bind ?_ (fun _ => ?_)
    · intro y0 y1 y2
      unfold plane_checkPoints.l1
      repeat' first
      | (with_reducible exact ih0 _ _ _ _)
      | (with_reducible exact ih1 _ _ _)
      | (with_reducible exact plane_valid.mono _ _)
      | (with_reducible exact LeO.refl _)
      | (with_reducible exact LeO.none _)
      | (with_reducible refine LeO.ite ?_ ?_)
      | (with_reducible refine LeO.bind ?_ (fun _ => ?_))
      | exact ih0 _ _ _ _
      | exact ih1 _ _ _
      | exact plane_valid.mono _ _
      | exact LeO.none _
      | refine LeO.ite ?_ ?_
      | refine LeO.bind ?_ (fun _ => ?_)
theorem plane_checkPoints.mono : ∀ a0 k, LeO (plane_checkPoints.f k a0) (plane_checkPoints.f (k + 1) a0) := by
  intro a0 k
  obtain ⟨ih0, ih1⟩ := plane_checkPoints.mono_l k
  unfold plane_checkPoints.f
  repeat' first
      | (with_reducible exact ih0 _ _ _ _)
      | (with_reducible exact ih1 _ _ _)
      | (with_reducible exact plane_valid.mono _ _)
      | (with_reducible exact LeO.refl _)
      | (with_reducible exact LeO.none _)
      | (with_reducible refine LeO.ite ?_ ?_)
      | (with_reducible refine LeO.bind ?_ (fun _ => ?_))
      | exact ih0 _ _ _ _
      | exact ih1 _ _ _
      | exact plane_valid.mono _ _
      | exact LeO.none _
      | refine LeO.ite ?_ ?_
      | refine LeO.bind ?_ (fun _ => ?_)
set_option maxHeartbeats 8000000 in
set_option maxRecDepth 100000 in
theorem plane_checkPoints.calls (k : Nat) (A0 : Option Addr) (c0 : Nat) (l0 : List (List (S23))) (r : Int) (w : World) (hr0 : Kd.C (Kd.slice 23 k23) w A0 l0.length l0) (hc0 : l0.length ≤ c0) (h : plane_checkPoints.f k l0 = some r) :
    Calls Try.prog 88 #[.slice A0 l0.length c0] w fun e w' => e = .returned (.int .i64 r) ∧ Below w.heap.size w w' := by
  have HR0 := Aside0.mk hr0
  have HC0 := Aside0.mk hc0
  clear hr0 hc0
  have HB := Aside0.mk (Below.refl w.heap.size w)
  have H : (plane_checkPoints.l0 k l0 l0 (l0.length : Int) 0) = some r := h
  clear h
  have H' := Aside0.mk H
  clear H
  go_enter Try.func88, Try.ntmps88
  go_wp2
  go_loopg [9] k (fun kq v9 w' => ∃ (x9_1 : Int), v9 = .int .i64 x9_1 ∧ Aside0 (plane_checkPoints.l0 kq l0 l0 (l0.length : Int) x9_1 = some r) ∧ Aside0 (kq ≤ k) ∧ Aside0 (Below w.heap.size w w'))
  case atStart => exact ⟨(0), (by first | rfl | (simp; done) | (simp [*]; done)), H', ⟨Nat.le_refl _⟩, ⟨by repeat (first | (with_reducible first | exact HB.out | apply below_alloc | apply pw_below_drewN | apply below_drew1) | exact HB.out)⟩⟩
  case round =>
    clear H'
    obtain ⟨x9_1, rfl, HA, HK1, HB⟩ := hrel
    cases gk with
    | zero => exact absurd HA.out (by simp [plane_checkPoints.l0])
    | succ k1 =>
      have H := HA.out
      clear HA
      simp only [plane_checkPoints.l0] at H
      by_cases c2 : x9_1 < (l0.length : Int)
      · rw [if_pos c2] at H
        have c2b0 : decide (x9_1 < (l0.length : Int)) = true := decide_eq_true c2
        clear c2
        by_cases c3 : 0 ≤ x9_1
        · rw [if_pos c3] at H
          have c3b0 : decide (0 ≤ x9_1) = true := decide_eq_true c3
          clear c3
          by_cases c4 : x9_1 < (l0.length : Int)
          · rw [if_pos c4] at H
            have c4b0 : decide (x9_1 < (l0.length : Int)) = true := decide_eq_true c4
            clear c4
            by_cases c5 : ((rd_L2 l0 x9_1).length : Int) > 256
            · rw [if_pos c5] at H
              have c5b0 : decide (256 < ((rd_L2 l0 x9_1).length : Int)) = true := decide_eq_true c5
              have c5b1 : decide (256 < (rd_L2 l0 x9_1).length) = true := decide_eq_true (by omega)
              clear c5
              obtain rfl := Option.some.inj H
              have p101 : 0 ≤ (x9_1 : Int) := of_decide_eq_true (by first | (with_reducible assumption) | assumption)
              have q101 : x9_1 < (l0.length : Int) := of_decide_eq_true (by first | (with_reducible assumption) | assumption)
              obtain ⟨ad101, A101_0, c101_0, e101, hx101_0, hl101_0, hi101_0⟩ := at_L2 HR0.out x9_1 p101 q101
              cases e101
              replace hx101_0 := (HB.out.cell (World.block_lt_of_cell? w _ hx101_0)).trans hx101_0
              have HR101_0 := Aside0.mk hi101_0
              have HC101_0 := Aside0.mk hl101_0
              clear hi101_0 hl101_0
              replace p101 := eq_true p101
              replace q101 := eq_true q101
              go_wp2
              go_ret
              exact ⟨by first | rfl | (simp [errW_none, errW_some] <;> rfl) | (simp [*, errW_none, errW_some] <;> rfl), by repeat (first | (with_reducible first | exact HB.out | apply below_alloc | apply pw_below_drewN | apply below_drew1) | exact HB.out)⟩
            · rw [if_neg c5] at H
              have c5b0 : decide (256 < ((rd_L2 l0 x9_1).length : Int)) = false := decide_eq_false c5
              have c5b1 : decide (256 < (rd_L2 l0 x9_1).length) = false := decide_eq_false (by omega)
              clear c5
              have H' := Aside0.mk H
              clear H
              have p101 : 0 ≤ (x9_1 : Int) := of_decide_eq_true (by first | (with_reducible assumption) | assumption)
              have q101 : x9_1 < (l0.length : Int) := of_decide_eq_true (by first | (with_reducible assumption) | assumption)
              obtain ⟨ad101, A101_0, c101_0, e101, hx101_0, hl101_0, hi101_0⟩ := at_L2 HR0.out x9_1 p101 q101
              cases e101
              replace hx101_0 := (HB.out.cell (World.block_lt_of_cell? w _ hx101_0)).trans hx101_0
              have HR101_0 := Aside0.mk hi101_0
              have HC101_0 := Aside0.mk hl101_0
              clear hi101_0 hl101_0
              replace p101 := eq_true p101
              replace q101 := eq_true q101
              go_wp2
              go_roundg k1
              case measure => have := HK1.out; omega
              case rel => exact ⟨(wrap64 (x9_1 + 1)), (by first | rfl | (simp; done) | (simp [*]; done)), H', ⟨by have := HK1.out; omega⟩, ⟨by repeat (first | (with_reducible first | exact HB.out | apply below_alloc | apply pw_below_drewN | apply below_drew1) | exact HB.out)⟩⟩
          · rw [if_neg c4] at H
            exact absurd H (by simp)
        · rw [if_neg c3] at H
          exact absurd H (by simp)
      · rw [if_neg c2] at H
        have c2b0 : decide (x9_1 < (l0.length : Int)) = false := decide_eq_false c2
        clear c2
        have H' := Aside0.mk H
        clear H
        go_wp2
        go_loopg [19] k1 (fun kq v19 w' => ∃ (x19_2 : Int), v19 = .int .i64 x19_2 ∧ Aside0 (plane_checkPoints.l1 kq l0 (l0.length : Int) x19_2 = some r) ∧ Aside0 (kq ≤ k1) ∧ Aside0 (Below w.heap.size w w'))
        case atStart => exact ⟨(0), (by first | rfl | (simp; done) | (simp [*]; done)), H', ⟨Nat.le_refl _⟩, ⟨by repeat (first | (with_reducible first | exact HB.out | apply below_alloc | apply pw_below_drewN | apply below_drew1) | exact HB.out)⟩⟩
        case round =>
          clear H'
          try clear c1
          try clear p1
          try clear q1
          try clear hx1
          try clear c2
          try clear c2b0
          try clear p2
          try clear c3
          try clear c3b0
          try clear c4
          try clear c4b0
          try clear c5
          try clear c5b0
          try clear c5b1
          try clear hx101_0
          try clear p101
          try clear q101
          obtain ⟨x19_2, rfl, HA, HK2, HB⟩ := hrel
          cases gk with
          | zero => exact absurd HA.out (by simp [plane_checkPoints.l1])
          | succ k2 =>
            have H := HA.out
            clear HA
            simp only [plane_checkPoints.l1] at H
            by_cases c6 : x19_2 < (l0.length : Int)
            · rw [if_pos c6] at H
              have c6b0 : decide (x19_2 < (l0.length : Int)) = true := decide_eq_true c6
              clear c6
              by_cases c7 : 0 ≤ x19_2
              · rw [if_pos c7] at H
                have c7b0 : decide (0 ≤ x19_2) = true := decide_eq_true c7
                clear c7
                by_cases c8 : x19_2 < (l0.length : Int)
                · rw [if_pos c8] at H
                  have c8b0 : decide (x19_2 < (l0.length : Int)) = true := decide_eq_true c8
                  clear c8
                  replace H := Option.bind_eq_some_iff.mp H
                  obtain ⟨t103, A90, H⟩ := H
                  replace H : (if t103 = true then (plane_checkPoints.l1 k2 l0 (l0.length : Int) (wrap64 (x19_2 + 1))) else (some 2)) = some r := H
                  have A9 := Aside0.mk A90
                  clear A90
                  by_cases c10 : t103 = true
                  · subst c10
                    have H1 : (plane_checkPoints.l1 k2 l0 (l0.length : Int) (wrap64 (x19_2 + 1))) = some r := by rw [if_pos rfl] at H; exact H
                    clear H
                    have H := H1
                    clear H1
                    have H' := Aside0.mk H
                    clear H
                    have p102 : 0 ≤ (x19_2 : Int) := of_decide_eq_true (by first | (with_reducible assumption) | assumption)
                    have q102 : x19_2 < (l0.length : Int) := of_decide_eq_true (by first | (with_reducible assumption) | assumption)
                    obtain ⟨ad102, A102_0, c102_0, e102, hx102_0, hl102_0, hi102_0⟩ := at_L2 HR0.out x19_2 p102 q102
                    cases e102
                    replace hx102_0 := (HB.out.cell (World.block_lt_of_cell? w _ hx102_0)).trans hx102_0
                    have HR102_0 := Aside0.mk hi102_0
                    have HC102_0 := Aside0.mk hl102_0
                    clear hi102_0 hl102_0
                    replace p102 := eq_true p102
                    replace q102 := eq_true q102
                    go_wp2_with (first | ((with_reducible refine gate_callee (f := 66) rfl ?_); refine goesL_ (some 24) rfl rfl Try.func66 (by kernel_rfl) rfl #[.slice A102_0 (rd_L2 l0 x19_2).length c102_0] rfl (by (try simp only [List.map_toArray, List.map_cons, List.map_nil]); first | done | rfl | (simp only [List.length_drop, List.length_take]; rfl)) ?_; (with_reducible refine (plane_valid.calls k2 _ _ (rd_L2 l0 x19_2) true _ ?side1 ?side2 A9.out).mono ?_); (case side1 => repeat (first | exact (Kd.C_below HR102_0.out HB.out) | (with_reducible refine Kd.C_alloc ?_ _) | (with_reducible refine Kd.C_drewN ?_ _) | (with_reducible refine Kd.C_drew ?_))); (case side2 => exact HC102_0.out); rintro e w11 ⟨rfl, hb⟩; refine ⟨_, rfl, ?_⟩; have n0_ := Aside0.mk (below_step (by repeat (first | (with_reducible first | exact HB.out | apply below_alloc | apply pw_below_drewN | apply below_drew1) | exact HB.out)) hb); clear HB; have HB := n0_; clear n0_; (try clear hb); (try clear hb2); (try clear hk); (try clear hi)))
                    go_roundg k2
                    case measure => have := HK1.out; have := HK2.out; omega
                    case rel => exact ⟨(wrap64 (x19_2 + 1)), (by first | rfl | (simp; done) | (simp [*]; done)), H', ⟨by have := HK1.out; have := HK2.out; omega⟩, ⟨by repeat (first | (with_reducible first | exact HB.out | apply below_alloc | apply pw_below_drewN | apply below_drew1) | exact HB.out)⟩⟩
                  · replace c10 := Bool.eq_false_iff.mpr c10
                    subst c10
                    have H1 : (some 2) = some r := by rw [if_neg (show ¬ (false = true) by decide)] at H; exact H
                    clear H
                    have H := H1
                    clear H1
                    obtain rfl := Option.some.inj H
                    have p102 : 0 ≤ (x19_2 : Int) := of_decide_eq_true (by first | (with_reducible assumption) | assumption)
                    have q102 : x19_2 < (l0.length : Int) := of_decide_eq_true (by first | (with_reducible assumption) | assumption)
                    obtain ⟨ad102, A102_0, c102_0, e102, hx102_0, hl102_0, hi102_0⟩ := at_L2 HR0.out x19_2 p102 q102
                    cases e102
                    replace hx102_0 := (HB.out.cell (World.block_lt_of_cell? w _ hx102_0)).trans hx102_0
                    have HR102_0 := Aside0.mk hi102_0
                    have HC102_0 := Aside0.mk hl102_0
                    clear hi102_0 hl102_0
                    replace p102 := eq_true p102
                    replace q102 := eq_true q102
                    go_wp2_with (first | ((with_reducible refine gate_callee (f := 66) rfl ?_); refine goesL_ (some 24) rfl rfl Try.func66 (by kernel_rfl) rfl #[.slice A102_0 (rd_L2 l0 x19_2).length c102_0] rfl (by (try simp only [List.map_toArray, List.map_cons, List.map_nil]); first | done | rfl | (simp only [List.length_drop, List.length_take]; rfl)) ?_; (with_reducible refine (plane_valid.calls k2 _ _ (rd_L2 l0 x19_2) false _ ?side1 ?side2 A9.out).mono ?_); (case side1 => repeat (first | exact (Kd.C_below HR102_0.out HB.out) | (with_reducible refine Kd.C_alloc ?_ _) | (with_reducible refine Kd.C_drewN ?_ _) | (with_reducible refine Kd.C_drew ?_))); (case side2 => exact HC102_0.out); rintro e w12 ⟨rfl, hb⟩; refine ⟨_, rfl, ?_⟩; have n0_ := Aside0.mk (below_step (by repeat (first | (with_reducible first | exact HB.out | apply below_alloc | apply pw_below_drewN | apply below_drew1) | exact HB.out)) hb); clear HB; have HB := n0_; clear n0_; (try clear hb); (try clear hb2); (try clear hk); (try clear hi)))
                    go_ret
                    exact ⟨by first | rfl | (simp [errW_none, errW_some] <;> rfl) | (simp [*, errW_none, errW_some] <;> rfl), by repeat (first | (with_reducible first | exact HB.out | apply below_alloc | apply pw_below_drewN | apply below_drew1) | exact HB.out)⟩
                · rw [if_neg c8] at H
                  exact absurd H (by simp)
              · rw [if_neg c7] at H
                exact absurd H (by simp)
            · rw [if_neg c6] at H
              have c6b0 : decide (x19_2 < (l0.length : Int)) = false := decide_eq_false c6
              clear c6
              obtain rfl := Option.some.inj H
              go_wp2
              go_ret
              exact ⟨by first | rfl | (simp [errW_none, errW_some] <;> rfl) | (simp [*, errW_none, errW_some] <;> rfl), by repeat (first | (with_reducible first | exact HB.out | apply below_alloc | apply pw_below_drewN | apply below_drew1) | exact HB.out)⟩
end Go.Proofs.Ytegdcnjjelgpjaa.P
namespace Go.Proofs.Ytegdcnjjelgpjaa.P
open Go.RowKit Go.Proofs.YtegdcnjjelgpjaaW.PrintWords Go.Proofs.YtegdcnjjelgpjaaW.PrintLast Go.Proofs.YtegdcnjjelgpjaaW.PrintMore
attribute [local go_sem] max2_int min2_int max_two min_two max_three min_three max_four min_four   -- for this text's walks alone
set_option linter.unusedVariables false
set_option linter.unusedSimpArgs false
attribute [local go_sem high] eqA23
def slices_Equal_93.l0 : Nat → List (S23) → List (S23) → Int → Int → Option (Bool)
  | 0, _, _, _, _ => none
  | k + 1, x0, x1, x12, x13 => if x13 < x12 then (if 0 ≤ x13 then (if x13 < (x0.length : Int) then (if x13 < (x1.length : Int) then (if (!(((rd_T23 x0 x13).f0) == ((rd_T23 x1 x13).f0)) || (!(((rd_T23 x0 x13).f1) == ((rd_T23 x1 x13).f1)))) = true then (some false) else (slices_Equal_93.l0 k x0 x1 x12 (wrap64 (x13 + 1)))) else (none)) else (none)) else (none)) else (some true)
def slices_Equal_93.f (k : Nat) (l0 : List (S23)) (l1 : List (S23)) : Option (Bool) := if (l0.length : Int) = (l1.length : Int) then (slices_Equal_93.l0 k l0 l1 (l0.length : Int) 0) else (some false)
theorem slices_Equal_93.mono_l : ∀ k, (∀ y0 y1 y2 y3, LeO (slices_Equal_93.l0 k y0 y1 y2 y3) (slices_Equal_93.l0 (k + 1) y0 y1 y2 y3))
  | 0 => fun _ _ _ _ r h => by simp [slices_Equal_93.l0] at h
  | k + 1 => by
    have ih0 := slices_Equal_93.mono_l k
    · intro y0 y1 y2 y3
      unfold slices_Equal_93.l0
      repeat' first
      | (with_reducible exact ih0 _ _ _ _)
      | (with_reducible exact LeO.refl _)
      | (with_reducible exact LeO.none _)
      | (with_reducible refine LeO.ite ?_ ?_)
      | (with_reducible refine LeO.bind ?_ (fun _ => ?_))
      | exact ih0 _ _ _ _
      | exact LeO.none _
      | refine LeO.ite ?_ ?_
      | refine LeO.bind ?_ (fun _ => ?_)
theorem slices_Equal_93.mono : ∀ a0 a1 k, LeO (slices_Equal_93.f k a0 a1) (slices_Equal_93.f (k + 1) a0 a1) := by
  intro a0 a1 k
  have ih0 := slices_Equal_93.mono_l k
  unfold slices_Equal_93.f
  repeat' first
      | (with_reducible exact ih0 _ _ _ _)
      | (with_reducible exact LeO.refl _)
      | (with_reducible exact LeO.none _)
      | (with_reducible refine LeO.ite ?_ ?_)
      | (with_reducible refine LeO.bind ?_ (fun _ => ?_))
      | exact ih0 _ _ _ _
      | exact LeO.none _
      | refine LeO.ite ?_ ?_
      | refine LeO.bind ?_ (fun _ => ?_)
set_option maxHeartbeats 8000000 in
set_option maxRecDepth 100000 in
theorem slices_Equal_93.calls (k : Nat) (A0 : Option Addr) (c0 : Nat) (l0 : List (S23)) (A1 : Option Addr) (c1 : Nat) (l1 : List (S23)) (r : Bool) (w : World) (hr0 : Kd.C k23 w A0 l0.length l0) (hc0 : l0.length ≤ c0) (hr1 : Kd.C k23 w A1 l1.length l1) (hc1 : l1.length ≤ c1) (h : slices_Equal_93.f k l0 l1 = some r) :
    Calls Try.prog 93 #[.slice A0 l0.length c0, .slice A1 l1.length c1] w fun e w' => e = .returned (.bool r) ∧ Drawn0 w w' := by
  have hu23 := Try.underlying23
  have HR0 := Aside0.mk hr0
  have HC0 := Aside0.mk hc0
  clear hr0 hc0
  have HR1 := Aside0.mk hr1
  have HC1 := Aside0.mk hc1
  clear hr1 hc1
  have H : (if (l0.length : Int) = (l1.length : Int) then (slices_Equal_93.l0 k l0 l1 (l0.length : Int) 0) else (some false)) = some r := h
  clear h
  by_cases c3 : (l0.length : Int) = (l1.length : Int)
  · rw [if_pos c3] at H
    have c3b0 : ((l0.length : Int) == (l1.length : Int)) = true := beq_iff_eq.mpr c3
    have c3b1 : ((l0.length : Int) != (l1.length : Int)) = false := bne_eq_false_iff_eq.mpr c3
    have c3b2 : (l0.length == l1.length) = true := by first | simpa using c3 | (simp at c3 ⊢; omega)
    clear c3
    have H' := Aside0.mk H
    clear H
    go_enter Try.func93, Try.ntmps93
    go_wp2
    repeat (go_quiet (fail); try go_wp2)
    go_loopg [13] k (fun kq v13 w' => ∃ (x13_1 : Int), v13 = .int .i64 x13_1 ∧ Aside0 (slices_Equal_93.l0 kq l0 l1 (l0.length : Int) x13_1 = some r) ∧ Aside0 (kq ≤ k) ∧ Drawn0 w w')
    case atStart => exact ⟨(0), (by first | rfl | (simp; done) | (simp [*]; done)), H', ⟨Nat.le_refl _⟩, by repeat (first | exact Drawn0.refl _ | apply Drawn0.step)⟩
    case round =>
      clear H'
      try clear c1
      try clear p2
      try clear c3
      try clear c3b0
      try clear c3b1
      try clear c3b2
      obtain ⟨x13_1, rfl, HA, HK1, ⟨m1, rfl⟩⟩ := hrel
      cases gk with
      | zero => exact absurd HA.out (by simp [slices_Equal_93.l0])
      | succ k1 =>
        have H := HA.out
        clear HA
        simp only [slices_Equal_93.l0] at H
        by_cases c4 : x13_1 < (l0.length : Int)
        · rw [if_pos c4] at H
          have c4b0 : decide (x13_1 < (l0.length : Int)) = true := decide_eq_true c4
          clear c4
          by_cases c5 : 0 ≤ x13_1
          · rw [if_pos c5] at H
            have c5b0 : decide (0 ≤ x13_1) = true := decide_eq_true c5
            clear c5
            by_cases c6 : x13_1 < (l0.length : Int)
            · rw [if_pos c6] at H
              have c6b0 : decide (x13_1 < (l0.length : Int)) = true := decide_eq_true c6
              clear c6
              by_cases c7 : x13_1 < (l1.length : Int)
              · rw [if_pos c7] at H
                have c7b0 : decide (x13_1 < (l1.length : Int)) = true := decide_eq_true c7
                clear c7
                by_cases c8 : (!(((rd_T23 l0 x13_1).f0) == ((rd_T23 l1 x13_1).f0)) || (!(((rd_T23 l0 x13_1).f1) == ((rd_T23 l1 x13_1).f1)))) = true
                · rw [if_pos c8] at H
                  have c8b0 : (!(((rd_T23 l0 x13_1).f0) == ((rd_T23 l1 x13_1).f0)) || (!(((rd_T23 l0 x13_1).f1) == ((rd_T23 l1 x13_1).f1)))) = true := c8
                  clear c8
                  obtain rfl := Option.some.inj H
                  have p101 : 0 ≤ (x13_1 : Int) := of_decide_eq_true (by first | (with_reducible assumption) | assumption)
                  have q101 : x13_1 < (l0.length : Int) := of_decide_eq_true (by first | (with_reducible assumption) | assumption)
                  obtain ⟨ad101, e101, hx101_0, hx101_1⟩ := at_T23 HR0.out x13_1 p101 q101
                  cases e101
                  replace p101 := eq_true p101
                  replace q101 := eq_true q101
                  have p102 : 0 ≤ (x13_1 : Int) := of_decide_eq_true (by first | (with_reducible assumption) | assumption)
                  have q102 : x13_1 < (l1.length : Int) := of_decide_eq_true (by first | (with_reducible assumption) | assumption)
                  obtain ⟨ad102, e102, hx102_0, hx102_1⟩ := at_T23 HR1.out x13_1 p102 q102
                  cases e102
                  replace p102 := eq_true p102
                  replace q102 := eq_true q102
                  go_wp2
                  repeat (go_quiet (fail); try go_wp2)
                  go_ret
                  exact ⟨by first | rfl | (simp; done) | (simp [*]; done), by repeat (first | exact Drawn0.refl _ | apply Drawn0.step)⟩
                · rw [if_neg c8] at H
                  have c8b0 : (!(((rd_T23 l0 x13_1).f0) == ((rd_T23 l1 x13_1).f0)) || (!(((rd_T23 l0 x13_1).f1) == ((rd_T23 l1 x13_1).f1)))) = false := by simpa using c8
                  clear c8
                  have H' := Aside0.mk H
                  clear H
                  have p101 : 0 ≤ (x13_1 : Int) := of_decide_eq_true (by first | (with_reducible assumption) | assumption)
                  have q101 : x13_1 < (l0.length : Int) := of_decide_eq_true (by first | (with_reducible assumption) | assumption)
                  obtain ⟨ad101, e101, hx101_0, hx101_1⟩ := at_T23 HR0.out x13_1 p101 q101
                  cases e101
                  replace p101 := eq_true p101
                  replace q101 := eq_true q101
                  have p102 : 0 ≤ (x13_1 : Int) := of_decide_eq_true (by first | (with_reducible assumption) | assumption)
                  have q102 : x13_1 < (l1.length : Int) := of_decide_eq_true (by first | (with_reducible assumption) | assumption)
                  obtain ⟨ad102, e102, hx102_0, hx102_1⟩ := at_T23 HR1.out x13_1 p102 q102
                  cases e102
                  replace p102 := eq_true p102
                  replace q102 := eq_true q102
                  go_wp2
                  repeat (go_quiet (fail); try go_wp2)
                  go_roundg k1
                  case measure => have := HK1.out; omega
                  case rel => exact ⟨(wrap64 (x13_1 + 1)), (by first | rfl | (simp; done) | (simp [*]; done)), H', ⟨by have := HK1.out; omega⟩, by repeat (first | exact Drawn0.refl _ | apply Drawn0.step)⟩
              · rw [if_neg c7] at H
                exact absurd H (by simp)
            · rw [if_neg c6] at H
              exact absurd H (by simp)
          · rw [if_neg c5] at H
            exact absurd H (by simp)
        · rw [if_neg c4] at H
          have c4b0 : decide (x13_1 < (l0.length : Int)) = false := decide_eq_false c4
          clear c4
          obtain rfl := Option.some.inj H
          go_wp2
          repeat (go_quiet (fail); try go_wp2)
          go_ret
          exact ⟨by first | rfl | (simp; done) | (simp [*]; done), by repeat (first | exact Drawn0.refl _ | apply Drawn0.step)⟩
  · rw [if_neg c3] at H
    have c3b0 : ((l0.length : Int) == (l1.length : Int)) = false := beq_eq_false_iff_ne.mpr c3
    have c3b1 : ((l0.length : Int) != (l1.length : Int)) = true := bne_iff_ne.mpr c3
    have c3b2 : (l0.length == l1.length) = false := by first | simpa using c3 | (simp at c3 ⊢; omega)
    obtain rfl := Option.some.inj H
    go_enter Try.func93, Try.ntmps93
    go_wp2
    repeat (go_quiet (fail); try go_wp2)
    go_ret
    exact ⟨by first | rfl | (simp; done) | (simp [*]; done), by repeat (first | exact Drawn0.refl _ | apply Drawn0.step)⟩
end Go.Proofs.Ytegdcnjjelgpjaa.P
namespace Go.Proofs.Ytegdcnjjelgpjaa.P
open Go.RowKit Go.Proofs.YtegdcnjjelgpjaaW.PrintWords Go.Proofs.YtegdcnjjelgpjaaW.PrintLast Go.Proofs.YtegdcnjjelgpjaaW.PrintMore
attribute [local go_sem] max2_int min2_int max_two min_two max_three min_three max_four min_four   -- for this text's walks alone
set_option linter.unusedVariables false
set_option linter.unusedSimpArgs false
def plane_IsHull.f (k : Nat) (l0 : List (S23)) : Option (Bool) := if (l0.length : Int) > 0 then ((plane_checkPoints.f k (([l0] : List (List (S23))))).bind fun t104 => (if t104 = 0 then ((plane_corners.f l0).bind fun t105 => ((slices_Equal_93.f k t105 l0).bind fun t108 => (some t108))) else (some false))) else (some false)
theorem plane_IsHull.mono : ∀ a0 k, LeO (plane_IsHull.f k a0) (plane_IsHull.f (k + 1) a0) := by
  intro a0 k
  unfold plane_IsHull.f
  repeat' first
      | (with_reducible exact plane_checkPoints.mono _ _)
      | (with_reducible exact slices_Equal_93.mono _ _ _)
      | (with_reducible exact LeO.refl _)
      | (with_reducible exact LeO.none _)
      | (with_reducible refine LeO.ite ?_ ?_)
      | (with_reducible refine LeO.bind ?_ (fun _ => ?_))
      | exact plane_checkPoints.mono _ _
      | exact slices_Equal_93.mono _ _ _
      | exact LeO.none _
      | refine LeO.ite ?_ ?_
      | refine LeO.bind ?_ (fun _ => ?_)
set_option maxHeartbeats 8000000 in
set_option maxRecDepth 100000 in
theorem plane_IsHull.calls (k : Nat) (P0_ : Nat → Prop) (A0 : Option Addr) (c0 : Nat) (l0 : List (S23)) (r : Bool) (w : World) (hs0 : Kd.V k23 23 w w.heap.size (fun k_ => P0_ k_) (.slice A0 l0.length c0) l0) (h : plane_IsHull.f k l0 = some r) :
    Calls Try.prog 47 #[.slice A0 l0.length c0] w fun e w' => e = .returned (.bool r) ∧ Below w.heap.size w w' := by
  have HO0 := Aside0.mk (show Kd.V k23 23 w w.heap.size (fun k_ => (P0_ k_ ∨ w.heap.size ≤ k_)) (.slice A0 l0.length c0) l0 from Kd.V_mono hs0 (fun k_ hk => .inl hk))
  have HB := Aside0.mk (Below.refl w.heap.size w)
  have H : (if (l0.length : Int) > 0 then ((plane_checkPoints.f k (([l0] : List (List (S23))))).bind fun t104 => (if t104 = 0 then ((plane_corners.f l0).bind fun t105 => ((slices_Equal_93.f k t105 l0).bind fun t108 => (some t108))) else (some false))) else (some false)) = some r := h
  clear h
  by_cases c2 : (l0.length : Int) > 0
  · rw [if_pos c2] at H
    have c2b0 : decide (0 < (l0.length : Int)) = true := decide_eq_true c2
    have c2b1 : decide (0 < l0.length) = true := decide_eq_true (by omega)
    clear c2
    obtain ⟨y101, hy101⟩ : ∃ y_ : List (List (S23)), y_ = (([l0] : List (List (S23)))) := ⟨_, rfl⟩
    replace H : ((plane_checkPoints.f k y101).bind fun t104 => (if t104 = 0 then ((plane_corners.f l0).bind fun t105 => ((slices_Equal_93.f k t105 l0).bind fun t108 => (some t108))) else (some false))) = some r := by first | (rw [hy101]; with_reducible exact H) | (have H2_ := (Option.bind_some _ _).symm.trans H; rw [hy101]; with_reducible exact H2_) | (have H2_ := (Option.bind_some _ _).symm.trans H; with_reducible exact H2_) | with_reducible exact H | (rw [hy101]; exact H) | exact H
    have Ny101 := Aside0.mk hy101
    clear hy101
    replace H := Option.bind_eq_some_iff.mp H
    obtain ⟨t104, A30, H⟩ := H
    replace H : (if t104 = 0 then ((plane_corners.f l0).bind fun t105 => ((slices_Equal_93.f k t105 l0).bind fun t108 => (some t108))) else (some false)) = some r := H
    have A3 := Aside0.mk A30
    clear A30
    by_cases c4 : t104 = 0
    · rw [if_pos c4] at H
      have c4b0 : (t104 == 0) = true := beq_iff_eq.mpr c4
      have c4b1 : (t104 != 0) = false := bne_eq_false_iff_eq.mpr c4
      clear c4
      replace H := Option.bind_eq_some_iff.mp H
      obtain ⟨t105, A50, H⟩ := H
      replace H : ((slices_Equal_93.f k t105 l0).bind fun t108 => (some t108)) = some r := H
      have A5 := Aside0.mk A50
      clear A50
      replace H := Option.bind_eq_some_iff.mp H
      obtain ⟨t108, A60, H⟩ := H
      replace H : (some t108) = some r := H
      have A6 := Aside0.mk A60
      clear A60
      obtain rfl := Option.some.inj H
      go_enter Try.func47, Try.ntmps47
      go_wp2_with (first | ((with_reducible refine gate_dst (N := 8) rfl ?_); (try (refine gate_guard (by rfl) ?_; dsimp only)); refine Kd.N_lit (Kd.slice 23 k23) _ 53 ?hg (N' := 8) ?hd (xs := ([l0] : List (List (S23)))) (inner := [.slice A0 l0.length c0]) (ok := (fun k_ => (P0_ k_ ∨ w.heap.size ≤ k_))) (okp := (fun k_ => (P0_ k_ ∨ w.heap.size ≤ k_))) ?hr ?hp (fun _ hk => hk) ((show ∀ k_, w.heap.size ≤ k_ → (fun k_ => (P0_ k_ ∨ w.heap.size ≤ k_)) k_ from fun k_ hk => (.inr (Nat.le_trans (below_size (by repeat (first | (with_reducible first | exact HB.out | apply below_alloc | apply pw_below_drewN | apply below_drew1) | exact HB.out))) hk))) _ (Nat.le_refl _)) (Below.refl _ _) (Nat.le_refl _) (by simp) ?_; (case hd => rfl); (case hg => rfl); (case hr => first | (go_simp; done) | (go_simp; rfl)); (case hp => exact (Reps.one (show Kd.FK (Kd.slice 23 k23) _ _ l0 [.slice A0 l0.length c0] from (Kd.FK_slice_mk (Kd.V_reads' (Kd.V_mono (ok' := (fun k_ => (P0_ k_ ∨ w.heap.size ≤ k_))) (HO0.out) (fun k_ hk => hk))).2.1 (Kd.V_F (Kd.V_mono (ok' := (fun k_ => (P0_ k_ ∨ w.heap.size ≤ k_))) (HO0.out) (fun k_ hk => hk))))) (Reps.none _ _))); intro v102 w7 ho8 hb hg_ hnew_; clear hg_ hnew_; (first | rw [← Ny101.out] at ho8 | (simp only [Int.reduceToNat] at ho8; rw [← Ny101.out] at ho8)); have n0_ := Aside0.mk (Kd.V_elder' (by (with_reducible repeat (first | apply Kd.V_alloc | apply Kd.V_drewN | apply Kd.V_drew)); exact HO0.out) (Kd.N_base ho8) hb); have n1_ := Aside0.mk (Kd.N_lower ho8 (below_size (by repeat (first | (with_reducible first | exact HB.out | apply below_alloc | apply pw_below_drewN | apply below_drew1) | exact HB.out)))); have n2_ := Aside0.mk (below_step (by repeat (first | (with_reducible first | exact HB.out | apply below_alloc | apply pw_below_drewN | apply below_drew1) | exact HB.out)) hb); clear HO0; clear HB; have HO0 := n0_; have HO103 := n1_; have HB := n2_; clear n0_ n1_ n2_; clear hb ho8; obtain ⟨Ao9, co9, eo9⟩ := Kd.N_slice HO103.out; subst eo9) | (go_at_call 88; (with_reducible refine (plane_checkPoints.calls k _ _ y101 t104 _ ?side1 ?side2 A3.out).mono ?_); (case side1 => repeat (first | exact (Kd.N_reads' HO103.out).2.2 | (with_reducible refine Kd.C_alloc ?_ _) | (with_reducible refine Kd.C_drewN ?_ _) | (with_reducible refine Kd.C_drew ?_))); (case side2 => exact (Kd.N_reads' HO103.out).2.1); rintro e w10 ⟨rfl, hb⟩; have n0_ := Aside0.mk (Kd.V_below (by (with_reducible repeat (first | apply Kd.V_alloc | apply Kd.V_drewN | apply Kd.V_drew)); exact HO0.out) hb); have n1_ := Aside0.mk (Kd.N_below (by (with_reducible repeat (first | apply Kd.N_alloc | apply Kd.N_drewN | apply Kd.N_drew)); exact HO103.out) hb); have n2_ := Aside0.mk (below_step (by repeat (first | (with_reducible first | exact HB.out | apply below_alloc | apply pw_below_drewN | apply below_drew1) | exact HB.out)) hb); clear HO0; clear HO103; clear HB; have HO0 := n0_; have HO103 := n1_; have HB := n2_; clear n0_ n1_ n2_; (try clear hb); (try clear hb2); (try clear hk); (try clear hi)) | (go_at_call 92; (with_reducible refine (plane_corners.calls _ _ l0 t105 _ ?side1 ?side2 A5.out).mono ?_); (case side1 => repeat (first | exact (Kd.V_reads' HO0.out).2.2 | (with_reducible refine Kd.C_alloc ?_ _) | (with_reducible refine Kd.C_drewN ?_ _) | (with_reducible refine Kd.C_drew ?_))); (case side2 => exact (Kd.V_reads' HO0.out).2.1); rintro e w11 ⟨v106, rfl, ho0, hb⟩; have n0_ := Aside0.mk (Kd.V_elder' (by (with_reducible repeat (first | apply Kd.V_alloc | apply Kd.V_drewN | apply Kd.V_drew)); exact HO0.out) (Kd.R_base ho0) hb); have n1_ := Aside0.mk (Kd.N_elder' (by (with_reducible repeat (first | apply Kd.N_alloc | apply Kd.N_drewN | apply Kd.N_drew)); exact HO103.out) (Kd.R_base ho0) hb); have n2_ := Aside0.mk (Kd.R_lower (Kd.R_newM (M := fun k_ => (w.heap.size ≤ k_)) ho0 (below_size (by repeat (first | (with_reducible first | exact HB.out | apply below_alloc | apply pw_below_drewN | apply below_drew1) | exact HB.out))) (fun k_ h_ => h_)) (below_size (by repeat (first | (with_reducible first | exact HB.out | apply below_alloc | apply pw_below_drewN | apply below_drew1) | exact HB.out)))); have n3_ := Aside0.mk (below_step (by repeat (first | (with_reducible first | exact HB.out | apply below_alloc | apply pw_below_drewN | apply below_drew1) | exact HB.out)) hb); clear HO0; clear HO103; clear HB; have HO0 := n0_; have HO103 := n1_; have HO107 := n2_; have HB := n3_; clear n0_ n1_ n2_ n3_; (try clear hb); (try clear hb2); (try clear hk); (try clear hi); (try clear ho0); obtain ⟨Ao12, co12, eo12⟩ := Kd.R_slice HO107.out; subst eo12) | (go_at_call 93; (with_reducible refine (slices_Equal_93.calls k _ _ t105 _ _ l0 t108 _ ?side1 ?side2 ?side3 ?side4 A6.out).mono ?_); (case side1 => repeat (first | exact (Kd.R_reads' HO107.out).2.2 | (with_reducible refine Kd.C_alloc ?_ _) | (with_reducible refine Kd.C_drewN ?_ _) | (with_reducible refine Kd.C_drew ?_))); (case side2 => exact (Kd.R_reads' HO107.out).2.1); (case side3 => repeat (first | exact (Kd.V_reads' HO0.out).2.2 | (with_reducible refine Kd.C_alloc ?_ _) | (with_reducible refine Kd.C_drewN ?_ _) | (with_reducible refine Kd.C_drew ?_))); (case side4 => exact (Kd.V_reads' HO0.out).2.1); rintro e w' ⟨rfl, ⟨nd, rfl⟩⟩))
      go_ret
      exact ⟨by first | rfl | (simp [errW_none, errW_some] <;> rfl) | (simp [*, errW_none, errW_some] <;> rfl), by repeat (first | (with_reducible first | exact HB.out | apply below_alloc | apply pw_below_drewN | apply below_drew1) | exact HB.out)⟩
    · rw [if_neg c4] at H
      have c4b0 : (t104 == 0) = false := beq_eq_false_iff_ne.mpr c4
      have c4b1 : (t104 != 0) = true := bne_iff_ne.mpr c4
      obtain rfl := Option.some.inj H
      go_enter Try.func47, Try.ntmps47
      go_wp2_with (first | ((with_reducible refine gate_dst (N := 8) rfl ?_); (try (refine gate_guard (by rfl) ?_; dsimp only)); refine Kd.N_lit (Kd.slice 23 k23) _ 53 ?hg (N' := 8) ?hd (xs := ([l0] : List (List (S23)))) (inner := [.slice A0 l0.length c0]) (ok := (fun k_ => (P0_ k_ ∨ w.heap.size ≤ k_))) (okp := (fun k_ => (P0_ k_ ∨ w.heap.size ≤ k_))) ?hr ?hp (fun _ hk => hk) ((show ∀ k_, w.heap.size ≤ k_ → (fun k_ => (P0_ k_ ∨ w.heap.size ≤ k_)) k_ from fun k_ hk => (.inr (Nat.le_trans (below_size (by repeat (first | (with_reducible first | exact HB.out | apply below_alloc | apply pw_below_drewN | apply below_drew1) | exact HB.out))) hk))) _ (Nat.le_refl _)) (Below.refl _ _) (Nat.le_refl _) (by simp) ?_; (case hd => rfl); (case hg => rfl); (case hr => first | (go_simp; done) | (go_simp; rfl)); (case hp => exact (Reps.one (show Kd.FK (Kd.slice 23 k23) _ _ l0 [.slice A0 l0.length c0] from (Kd.FK_slice_mk (Kd.V_reads' (Kd.V_mono (ok' := (fun k_ => (P0_ k_ ∨ w.heap.size ≤ k_))) (HO0.out) (fun k_ hk => hk))).2.1 (Kd.V_F (Kd.V_mono (ok' := (fun k_ => (P0_ k_ ∨ w.heap.size ≤ k_))) (HO0.out) (fun k_ hk => hk))))) (Reps.none _ _))); intro v102 w13 ho14 hb hg_ hnew_; clear hg_ hnew_; (first | rw [← Ny101.out] at ho14 | (simp only [Int.reduceToNat] at ho14; rw [← Ny101.out] at ho14)); have n0_ := Aside0.mk (Kd.V_elder' (by (with_reducible repeat (first | apply Kd.V_alloc | apply Kd.V_drewN | apply Kd.V_drew)); exact HO0.out) (Kd.N_base ho14) hb); have n1_ := Aside0.mk (Kd.N_lower ho14 (below_size (by repeat (first | (with_reducible first | exact HB.out | apply below_alloc | apply pw_below_drewN | apply below_drew1) | exact HB.out)))); have n2_ := Aside0.mk (below_step (by repeat (first | (with_reducible first | exact HB.out | apply below_alloc | apply pw_below_drewN | apply below_drew1) | exact HB.out)) hb); clear HO0; clear HB; have HO0 := n0_; have HO103 := n1_; have HB := n2_; clear n0_ n1_ n2_; clear hb ho14; obtain ⟨Ao15, co15, eo15⟩ := Kd.N_slice HO103.out; subst eo15) | (go_at_call 88; (with_reducible refine (plane_checkPoints.calls k _ _ y101 t104 _ ?side1 ?side2 A3.out).mono ?_); (case side1 => repeat (first | exact (Kd.N_reads' HO103.out).2.2 | (with_reducible refine Kd.C_alloc ?_ _) | (with_reducible refine Kd.C_drewN ?_ _) | (with_reducible refine Kd.C_drew ?_))); (case side2 => exact (Kd.N_reads' HO103.out).2.1); rintro e w16 ⟨rfl, hb⟩; have n0_ := Aside0.mk (Kd.V_below (by (with_reducible repeat (first | apply Kd.V_alloc | apply Kd.V_drewN | apply Kd.V_drew)); exact HO0.out) hb); have n1_ := Aside0.mk (Kd.N_below (by (with_reducible repeat (first | apply Kd.N_alloc | apply Kd.N_drewN | apply Kd.N_drew)); exact HO103.out) hb); have n2_ := Aside0.mk (below_step (by repeat (first | (with_reducible first | exact HB.out | apply below_alloc | apply pw_below_drewN | apply below_drew1) | exact HB.out)) hb); clear HO0; clear HO103; clear HB; have HO0 := n0_; have HO103 := n1_; have HB := n2_; clear n0_ n1_ n2_; (try clear hb); (try clear hb2); (try clear hk); (try clear hi)))
      go_ret
      exact ⟨by first | rfl | (simp [errW_none, errW_some] <;> rfl) | (simp [*, errW_none, errW_some] <;> rfl), by repeat (first | (with_reducible first | exact HB.out | apply below_alloc | apply pw_below_drewN | apply below_drew1) | exact HB.out)⟩
  · rw [if_neg c2] at H
    have c2b0 : decide (0 < (l0.length : Int)) = false := decide_eq_false c2
    have c2b1 : decide (0 < l0.length) = false := decide_eq_false (by omega)
    clear c2
    obtain rfl := Option.some.inj H
    go_enter Try.func47, Try.ntmps47
    go_wp2
    go_ret
    exact ⟨by first | rfl | (simp [errW_none, errW_some] <;> rfl) | (simp [*, errW_none, errW_some] <;> rfl), by repeat (first | (with_reducible first | exact HB.out | apply below_alloc | apply pw_below_drewN | apply below_drew1) | exact HB.out)⟩
end Go.Proofs.Ytegdcnjjelgpjaa.P
namespace Go.Proofs.Ytegdcnjjelgpjaa.P
open Go.RowKit Go.Proofs.YtegdcnjjelgpjaaW.PrintWords Go.Proofs.YtegdcnjjelgpjaaW.PrintLast Go.Proofs.YtegdcnjjelgpjaaW.PrintMore
attribute [local go_sem] max2_int min2_int max_two min_two max_three min_three max_four min_four   -- for this text's walks alone
set_option linter.unusedVariables false
set_option linter.unusedSimpArgs false
attribute [local go_sem high] eqA23 eqA40
def goosenecklaw01_works.f (k : Nat)  : Option (Bool) := (plane_Nearest.f (-7) 2).bind fun bt101 => ((plane_Half.f 1 2).bind fun bt103 => ((plane_Place.f k 0 0 300 400 10 0).bind fun bt108 => (if bt101.2 = 0 then (if bt103.2.2.2 = 0 then (if bt108.2.2 = 0 then (if bt101.1 = (-3) then (if (bt103.1 == 3 && (bt103.2.1 == 4 && (bt103.2.2.1 == 5))) = true then (if (bt108.1 == 6 && (bt108.2.1 == 8)) = true then ((plane_IsHull.f k (([(⟨bt108.1, bt108.2.1⟩ : S23)] : List (S23)))).bind fun t115 => (some t115)) else (some false)) else (some false)) else (some false)) else (some false)) else (some false)) else (some false))))
theorem goosenecklaw01_works.mono : ∀ k, LeO (goosenecklaw01_works.f k ) (goosenecklaw01_works.f (k + 1) ) := by
  intro  k
  unfold goosenecklaw01_works.f
  repeat' first
      | (with_reducible exact plane_IsHull.mono _ _)
      | (with_reducible exact plane_Place.mono _ _ _ _ _ _ _)
      | (with_reducible exact LeO.refl _)
      | (with_reducible exact LeO.none _)
      | (with_reducible refine LeO.ite ?_ ?_)
      | (with_reducible refine LeO.bind ?_ (fun _ => ?_))
      | exact plane_IsHull.mono _ _
      | exact plane_Place.mono _ _ _ _ _ _ _
      | exact LeO.none _
      | refine LeO.ite ?_ ?_
      | refine LeO.bind ?_ (fun _ => ?_)
set_option maxHeartbeats 8000000 in
set_option maxRecDepth 100000 in
theorem goosenecklaw01_works.callsT (k : Nat)  (r : Bool) (w : World) (hr_ : Aside0 (r = true)) (h : goosenecklaw01_works.f k  = some r) :
    Calls Try.prog 19 #[] w fun e w' => e = .returned (.bool r) ∧ Below w.heap.size w w' := by
  have hu40 := Try.underlying40
  have hu23 := Try.underlying23
  have HB := Aside0.mk (Below.refl w.heap.size w)
  have H : ((plane_Nearest.f (-7) 2).bind fun bt101 => ((plane_Half.f 1 2).bind fun bt103 => ((plane_Place.f k 0 0 300 400 10 0).bind fun bt108 => (if bt101.2 = 0 then (if bt103.2.2.2 = 0 then (if bt108.2.2 = 0 then (if bt101.1 = (-3) then (if (bt103.1 == 3 && (bt103.2.1 == 4 && (bt103.2.2.1 == 5))) = true then (if (bt108.1 == 6 && (bt108.2.1 == 8)) = true then ((plane_IsHull.f k (([(⟨bt108.1, bt108.2.1⟩ : S23)] : List (S23)))).bind fun t115 => (some t115)) else (some false)) else (some false)) else (some false)) else (some false)) else (some false)) else (some false))))) = some r := h
  clear h
  replace H := Option.bind_eq_some_iff.mp H
  obtain ⟨⟨t101, t102⟩, A10, H⟩ := H
  replace H : ((plane_Half.f 1 2).bind fun bt103 => ((plane_Place.f k 0 0 300 400 10 0).bind fun bt108 => (if t102 = 0 then (if bt103.2.2.2 = 0 then (if bt108.2.2 = 0 then (if t101 = (-3) then (if (bt103.1 == 3 && (bt103.2.1 == 4 && (bt103.2.2.1 == 5))) = true then (if (bt108.1 == 6 && (bt108.2.1 == 8)) = true then ((plane_IsHull.f k (([(⟨bt108.1, bt108.2.1⟩ : S23)] : List (S23)))).bind fun t115 => (some t115)) else (some false)) else (some false)) else (some false)) else (some false)) else (some false)) else (some false)))) = some r := H
  have A1 := Aside0.mk A10
  clear A10
  replace H := Option.bind_eq_some_iff.mp H
  obtain ⟨⟨t103, t104, t105, t106⟩, A20, H⟩ := H
  replace H : ((plane_Place.f k 0 0 300 400 10 0).bind fun bt108 => (if t102 = 0 then (if t106 = 0 then (if bt108.2.2 = 0 then (if t101 = (-3) then (if (t103 == 3 && (t104 == 4 && (t105 == 5))) = true then (if (bt108.1 == 6 && (bt108.2.1 == 8)) = true then ((plane_IsHull.f k (([(⟨bt108.1, bt108.2.1⟩ : S23)] : List (S23)))).bind fun t115 => (some t115)) else (some false)) else (some false)) else (some false)) else (some false)) else (some false)) else (some false))) = some r := H
  have A2 := Aside0.mk A20
  clear A20
  replace H := Option.bind_eq_some_iff.mp H
  obtain ⟨⟨t108, t109, t110⟩, A30, H⟩ := H
  replace H : (if t102 = 0 then (if t106 = 0 then (if t110 = 0 then (if t101 = (-3) then (if (t103 == 3 && (t104 == 4 && (t105 == 5))) = true then (if (t108 == 6 && (t109 == 8)) = true then ((plane_IsHull.f k (([(⟨t108, t109⟩ : S23)] : List (S23)))).bind fun t115 => (some t115)) else (some false)) else (some false)) else (some false)) else (some false)) else (some false)) else (some false)) = some r := H
  have A3 := Aside0.mk A30
  clear A30
  by_cases c4 : t102 = 0
  · rw [if_pos c4] at H
    have c4b0 : (t102 == 0) = true := beq_iff_eq.mpr c4
    have c4b1 : (t102 != 0) = false := bne_eq_false_iff_eq.mpr c4
    clear c4
    by_cases c5 : t106 = 0
    · rw [if_pos c5] at H
      have c5b0 : (t106 == 0) = true := beq_iff_eq.mpr c5
      have c5b1 : (t106 != 0) = false := bne_eq_false_iff_eq.mpr c5
      clear c5
      by_cases c6 : t110 = 0
      · rw [if_pos c6] at H
        have c6b0 : (t110 == 0) = true := beq_iff_eq.mpr c6
        have c6b1 : (t110 != 0) = false := bne_eq_false_iff_eq.mpr c6
        clear c6
        by_cases c7 : t101 = (-3)
        · rw [if_pos c7] at H
          have c7b0 : (t101 == (-3)) = true := beq_iff_eq.mpr c7
          have c7b1 : (t101 != (-3)) = false := bne_eq_false_iff_eq.mpr c7
          clear c7
          by_cases c8 : (t103 == 3 && (t104 == 4 && (t105 == 5))) = true
          · rw [if_pos c8] at H
            have c8b0 : (t103 == 3 && (t104 == 4 && (t105 == 5))) = true := c8
            (try (have c8b1 : decide (t103 = 3 && (t104 == 4 && (t105 == 5))) = true := by simpa using c8))
            (try (have c8b2 : (t103 == 3 && (t104 == 4 && (t105 == 5))) = true := by simpa using c8))
            clear c8
            by_cases c9 : (t108 == 6 && (t109 == 8)) = true
            · rw [if_pos c9] at H
              have c9b0 : (t108 == 6 && (t109 == 8)) = true := c9
              (try (have c9b1 : decide (t108 = 6 && (t109 == 8)) = true := by simpa using c9))
              (try (have c9b2 : (t108 == 6 && (t109 == 8)) = true := by simpa using c9))
              clear c9
              obtain ⟨y112, hy112⟩ : ∃ y_ : List (S23), y_ = (([(⟨t108, t109⟩ : S23)] : List (S23))) := ⟨_, rfl⟩
              replace H : ((plane_IsHull.f k y112).bind fun t115 => (some t115)) = some r := by first | (rw [hy112]; with_reducible exact H) | (have H2_ := (Option.bind_some _ _).symm.trans H; rw [hy112]; with_reducible exact H2_) | (have H2_ := (Option.bind_some _ _).symm.trans H; with_reducible exact H2_) | with_reducible exact H | (rw [hy112]; exact H) | exact H
              have Ny112 := Aside0.mk hy112
              clear hy112
              replace H := Option.bind_eq_some_iff.mp H
              obtain ⟨t115, A100, H⟩ := H
              replace H : (some t115) = some r := H
              have A10 := Aside0.mk A100
              clear A100
              obtain rfl := Option.some.inj H
              go_enter Try.func19, Try.ntmps19
              go_wp2_with (first | ((with_reducible refine gate_callee (f := 32) rfl ?_); refine goesL_ (some 8) rfl rfl Try.func32 (by kernel_rfl) rfl #[.int .i64 (-7), .int .i64 2] rfl (by (try simp only [List.map_toArray, List.map_cons, List.map_nil]); first | done | rfl | (simp only [List.length_drop, List.length_take]; rfl)) ?_; (with_reducible refine (plane_Nearest.calls (-7) 2 t101 t102 _ A1.out).mono ?_); rintro e w' ⟨rfl, ⟨nd, rfl⟩⟩; refine ⟨_, rfl, ?_⟩) | ((with_reducible refine gate_callee (f := 22) rfl ?_); refine goesL_ (some 12) rfl rfl Try.func22 (by kernel_rfl) rfl #[.int .i64 1, .int .i64 2] rfl (by (try simp only [List.map_toArray, List.map_cons, List.map_nil]); first | done | rfl | (simp only [List.length_drop, List.length_take]; rfl)) ?_; (with_reducible refine (plane_Half.calls 1 2 t103 t104 t105 t106 _ A2.out).mono ?_); rintro e w11 ⟨rfl, hb⟩; refine ⟨_, rfl, ?_⟩; have n0_ := Aside0.mk (below_step (by repeat (first | (with_reducible first | exact HB.out | apply below_alloc | apply pw_below_drewN | apply below_drew1) | exact HB.out)) hb); clear HB; have HB := n0_; clear n0_; (try clear hb); (try clear hb2); (try clear hk); (try clear hi)) | ((with_reducible refine gate_dst (N := 3) rfl ?_); (try (refine gate_guard (by rfl) ?_; dsimp only)); refine box_event ?hg (N := 3) ?hd (cs := #[.int .i64 0, .int .i64 0, .int .i64 0]) (t := 40) ?hr ?_; (case hd => rfl); (case hg => rfl); (case hr => first | (go_simp; done) | (go_simp; rfl)); intro gb107 hg w12 hbox hb; have n0_ := Aside0.mk (below_step (by repeat (first | (with_reducible first | exact HB.out | apply below_alloc | apply pw_below_drewN | apply below_drew1) | exact HB.out)) hb); have n1_ := Aside0.mk (hbox); have n2_ := Aside0.mk ((by rw [hg]; exact (below_size (by repeat (first | (with_reducible first | exact HB.out | apply below_alloc | apply pw_below_drewN | apply below_drew1) | exact HB.out))) : w.heap.size ≤ gb107)); have n3_ := Aside0.mk ((by rw [hg]; exact (below_size (by repeat (first | (with_reducible first | exact HB.out | apply below_alloc | apply pw_below_drewN | apply below_drew1) | exact HB.out))) : w.heap.size ≤ gb107)); clear HB; have HB := n0_; have BK107 := n1_; have GW107 := n2_; have GE107 := n3_; clear n0_ n1_ n2_ n3_; clear hb hbox hg; have hcz13_0 : w12.cell? ⟨gb107, 0, none⟩ = some (.int .i64 0) := (blk_cell BK107.out 0).trans rfl; have hcz13_1 : w12.cell? ⟨gb107, 1, none⟩ = some (.int .i64 0) := (blk_cell BK107.out 1).trans rfl; have hcz13_2 : w12.cell? ⟨gb107, 2, none⟩ = some (.int .i64 0) := (blk_cell BK107.out 2).trans rfl; have hfz13_0 := blk_frozen BK107.out 0; have hfz13_1 := blk_frozen BK107.out 1; have hfz13_2 := blk_frozen BK107.out 2) | ((with_reducible refine gate_callee (f := 15) rfl ?_); refine goesL_ (some 18) rfl rfl Try.func15 (by kernel_rfl) rfl #[.agg #[.int .i64 0, .int .i64 0], .agg #[.int .i64 300, .int .i64 400], .int .i64 10, .int .i64 0] rfl (by (try simp only [List.map_toArray, List.map_cons, List.map_nil]); first | done | rfl | (simp only [List.length_drop, List.length_take]; rfl)) ?_; (with_reducible refine (plane_Place.calls k 0 0 300 400 10 0 t108 t109 t110 _ A3.out).mono ?_); rintro e w14 ⟨rfl, hb⟩; refine ⟨_, rfl, ?_⟩; have n0_ := Aside0.mk (blk_below (g := gb107) (o := .cells #[.int .i64 t103, .int .i64 t104, .int .i64 t105] 40 (0, 0)) (by (with_reducible repeat (first | refine blk_drewN ?_ _ | refine blk_drew ?_ | refine blk_alloc ?_ _)); refine blk_put (cs := #[.int .i64 t103, .int .i64 t104, .int .i64 0]) ?_ 2 _ rfl; (with_reducible repeat (first | refine blk_drewN ?_ _ | refine blk_drew ?_ | refine blk_alloc ?_ _)); refine blk_put (cs := #[.int .i64 t103, .int .i64 0, .int .i64 0]) ?_ 1 _ rfl; (with_reducible repeat (first | refine blk_drewN ?_ _ | refine blk_drew ?_ | refine blk_alloc ?_ _)); refine blk_put (cs := #[.int .i64 0, .int .i64 0, .int .i64 0]) ?_ 0 _ rfl; (with_reducible repeat (first | refine blk_drewN ?_ _ | refine blk_drew ?_ | refine blk_alloc ?_ _)); exact BK107.out) hb); have n1_ := Aside0.mk (below_step (by repeat (first | (with_reducible first | exact HB.out | apply below_alloc | apply pw_below_drewN | apply below_drew1 | refine below_set ?_ GE107.out) | exact HB.out)) hb); clear BK107; clear HB; have BK107 := n0_; have HB := n1_; clear n0_ n1_; (try clear hb); (try clear hb2); (try clear hk); (try clear hi)) | ((with_reducible refine gate_dst (N := 5) rfl ?_); (try (refine gate_guard (by rfl) ?_; dsimp only)); refine box_event ?hg (N := 5) ?hd (cs := #[.int .i64 0, .int .i64 0]) (t := 23) ?hr ?_; (case hd => rfl); (case hg => rfl); (case hr => first | (go_simp; done) | (go_simp; rfl)); intro gb111 hg w15 hbox hb; have n0_ := Aside0.mk (blk_below (g := gb107) (o := .cells #[.int .i64 t103, .int .i64 t104, .int .i64 t105] 40 (0, 0)) (by (with_reducible repeat (first | refine blk_drewN ?_ _ | refine blk_drew ?_ | refine blk_alloc ?_ _)); exact BK107.out) hb); have n1_ := Aside0.mk (below_step (by repeat (first | (with_reducible first | exact HB.out | apply below_alloc | apply pw_below_drewN | apply below_drew1 | refine below_set ?_ GE107.out) | exact HB.out)) hb); have n2_ := Aside0.mk (hbox); have n3_ := Aside0.mk ((by rw [hg]; exact (below_size (by repeat (first | (with_reducible first | exact HB.out | apply below_alloc | apply pw_below_drewN | apply below_drew1 | refine below_set ?_ GE107.out) | exact HB.out))) : w.heap.size ≤ gb111)); have n4_ := Aside0.mk ((by rw [hg]; exact (below_size (by repeat (first | (with_reducible first | exact HB.out | apply below_alloc | apply pw_below_drewN | apply below_drew1 | refine below_set ?_ GE107.out) | exact HB.out))) : w.heap.size ≤ gb111)); have n5_ := Aside0.mk ((by rw [hg]; exact Nat.ne_of_lt (blk_lt (g := gb107) (o := .cells #[.int .i64 t103, .int .i64 t104, .int .i64 t105] 40 (0, 0)) (by (with_reducible repeat (first | refine blk_drewN ?_ _ | refine blk_drew ?_ | refine blk_alloc ?_ _)); exact BK107.out)) : gb107 ≠ gb111)); have n6_ := Aside0.mk ((by rw [hg]; exact Nat.ne_of_gt (blk_lt (g := gb107) (o := .cells #[.int .i64 t103, .int .i64 t104, .int .i64 t105] 40 (0, 0)) (by (with_reducible repeat (first | refine blk_drewN ?_ _ | refine blk_drew ?_ | refine blk_alloc ?_ _)); exact BK107.out)) : gb111 ≠ gb107)); clear BK107; clear HB; have BK107 := n0_; have HB := n1_; have BK111 := n2_; have GW111 := n3_; have GE111 := n4_; have NB107_111 := n5_; have NB111_107 := n6_; clear n0_ n1_ n2_ n3_ n4_ n5_ n6_; clear hb hbox hg; have hnb16 := NB111_107.out; have hnc16 := NB107_111.out; have hcz17_0 : w15.cell? ⟨gb111, 0, none⟩ = some (.int .i64 0) := (blk_cell BK111.out 0).trans rfl; have hcz17_1 : w15.cell? ⟨gb111, 1, none⟩ = some (.int .i64 0) := (blk_cell BK111.out 1).trans rfl; have hfz17_0 := blk_frozen BK111.out 0; have hfz17_1 := blk_frozen BK111.out 1; have hcz18_0 : w15.cell? ⟨gb107, 0, none⟩ = some (.int .i64 t103) := (blk_cell BK107.out 0).trans rfl; have hcz18_1 : w15.cell? ⟨gb107, 1, none⟩ = some (.int .i64 t104) := (blk_cell BK107.out 1).trans rfl; have hcz18_2 : w15.cell? ⟨gb107, 2, none⟩ = some (.int .i64 t105) := (blk_cell BK107.out 2).trans rfl; have hfz18_0 := blk_frozen BK107.out 0; have hfz18_1 := blk_frozen BK107.out 1; have hfz18_2 := blk_frozen BK107.out 2) | ((with_reducible refine gate_dst (N := 47) rfl ?_); (try (refine gate_guard (by rfl) ?_; dsimp only)); refine Kd.R_lit k23 _ 23 ?hg (N := 47) ?hd (xs := ([(⟨t108, t109⟩ : S23)] : List (S23))) (inner := [.int .i64 t108, .int .i64 t109]) (ok := fun _ => True) (okp := fun _ => True) ?hr ?hp (fun _ hk => hk) trivial (Below.refl _ _) (Nat.le_refl _) (by simp) ?_; (case hd => rfl); (case hg => rfl); (case hr => first | (go_simp; done) | (go_simp; rfl)); (case hp => exact (Reps.c2 (show Kd.M k23 _ _ _ (⟨t108, t109⟩ : S23) [.int .i64 t108, .int .i64 t109] from (k23_mkM _ _ _ (⟨t108, t109⟩ : S23) )) (Reps.none _ _))); intro v113 w19 ho20 hb hg_ hnew_; clear hg_ hnew_; (first | rw [← Ny112.out] at ho20 | (simp only [Int.reduceToNat] at ho20; rw [← Ny112.out] at ho20)); have n0_ := Aside0.mk (Kd.R_lower (Kd.R_newB ho20 (g := gb111) (o := .cells #[.int .i64 t108, .int .i64 t109] 23 (0, 0)) (by (with_reducible repeat (first | refine blk_drewN ?_ _ | refine blk_drew ?_ | refine blk_alloc ?_ _)); refine blk_put (cs := #[.int .i64 t108, .int .i64 0]) ?_ 1 _ rfl; (with_reducible repeat (first | refine blk_drewN ?_ _ | refine blk_drew ?_ | refine blk_alloc ?_ _)); refine blk_put (cs := #[.int .i64 0, .int .i64 0]) ?_ 0 _ rfl; (with_reducible repeat (first | refine blk_drewN ?_ _ | refine blk_drew ?_ | refine blk_alloc ?_ _)); exact BK111.out)) (below_size (by repeat (first | (with_reducible first | exact HB.out | apply below_alloc | apply pw_below_drewN | apply below_drew1 | refine below_set ?_ GE107.out | refine below_set ?_ GE111.out) | exact HB.out)))); have n1_ := Aside0.mk (blk_below (g := gb107) (o := .cells #[.int .i64 t103, .int .i64 t104, .int .i64 t105] 40 (0, 0)) (by (with_reducible repeat (first | refine blk_drewN ?_ _ | refine blk_drew ?_ | refine blk_alloc ?_ _)); refine blk_far ?_ NB107_111.out _; (with_reducible repeat (first | refine blk_drewN ?_ _ | refine blk_drew ?_ | refine blk_alloc ?_ _)); refine blk_far ?_ NB107_111.out _; (with_reducible repeat (first | refine blk_drewN ?_ _ | refine blk_drew ?_ | refine blk_alloc ?_ _)); exact BK107.out) hb); have n2_ := Aside0.mk (blk_below (g := gb111) (o := .cells #[.int .i64 t108, .int .i64 t109] 23 (0, 0)) (by (with_reducible repeat (first | refine blk_drewN ?_ _ | refine blk_drew ?_ | refine blk_alloc ?_ _)); refine blk_put (cs := #[.int .i64 t108, .int .i64 0]) ?_ 1 _ rfl; (with_reducible repeat (first | refine blk_drewN ?_ _ | refine blk_drew ?_ | refine blk_alloc ?_ _)); refine blk_put (cs := #[.int .i64 0, .int .i64 0]) ?_ 0 _ rfl; (with_reducible repeat (first | refine blk_drewN ?_ _ | refine blk_drew ?_ | refine blk_alloc ?_ _)); exact BK111.out) hb); have n3_ := Aside0.mk (below_step (by repeat (first | (with_reducible first | exact HB.out | apply below_alloc | apply pw_below_drewN | apply below_drew1 | refine below_set ?_ GE107.out | refine below_set ?_ GE111.out) | exact HB.out)) hb); clear BK107; clear BK111; clear HB; have HO114 := n0_; have BK107 := n1_; have BK111 := n2_; have HB := n3_; clear n0_ n1_ n2_ n3_; clear hb ho20; obtain ⟨Ao21, co21, eo21⟩ := Kd.R_slice HO114.out; subst eo21) | (go_at_call 47; (with_reducible refine (plane_IsHull.calls k (fun k_ => some k_ = (.slice Ao21 y112.length co21 : Value).ownBlock) _ _ y112 t115 _ ?side1 A10.out).mono ?_); (case side1 => exact Kd.R_V (Kd.R_tight rfl (Kd.R_types (HO114.out) BK107.out (by decide)))); rintro e w22 ⟨rfl, hb⟩; have n0_ := Aside0.mk (Kd.R_below (by (with_reducible repeat (first | apply Kd.R_alloc | apply Kd.R_drewN | apply Kd.R_drew)); exact HO114.out) hb); have n1_ := Aside0.mk (blk_below (g := gb107) (o := .cells #[.int .i64 t103, .int .i64 t104, .int .i64 t105] 40 (0, 0)) (by (with_reducible repeat (first | refine blk_drewN ?_ _ | refine blk_drew ?_ | refine blk_alloc ?_ _)); exact BK107.out) hb); have n2_ := Aside0.mk (blk_below (g := gb111) (o := .cells #[.int .i64 t108, .int .i64 t109] 23 (0, 0)) (by (with_reducible repeat (first | refine blk_drewN ?_ _ | refine blk_drew ?_ | refine blk_alloc ?_ _)); exact BK111.out) hb); have n3_ := Aside0.mk (below_step (by repeat (first | (with_reducible first | exact HB.out | apply below_alloc | apply pw_below_drewN | apply below_drew1 | refine below_set ?_ GE107.out | refine below_set ?_ GE111.out) | exact HB.out)) hb); clear HO114; clear BK107; clear BK111; clear HB; have HO114 := n0_; have BK107 := n1_; have BK111 := n2_; have HB := n3_; clear n0_ n1_ n2_ n3_; (try clear hb); (try clear hb2); (try clear hk); (try clear hi)))
              go_ret
              exact ⟨by first | rfl | (simp [errW_none, errW_some] <;> rfl) | (simp [*, errW_none, errW_some] <;> rfl), by repeat (first | (with_reducible first | exact HB.out | apply below_alloc | apply pw_below_drewN | apply below_drew1 | refine below_set ?_ GE107.out | refine below_set ?_ GE111.out) | exact HB.out)⟩
            · rw [if_neg c9] at H
              have c9b0 : (t108 == 6 && (t109 == 8)) = false := by simpa using c9
              (try (have c9b1 : decide (t108 = 6 && (t109 == 8)) = false := by simpa using c9))
              (try (have c9b2 : (t108 == 6 && (t109 == 8)) = false := by simpa using c9))
              (try (have c9b3 : ¬ (t108 = 6 && (t109 == 8)) := by simpa using c9))
              clear c9
              rw [hr_.out] at H
              exact absurd H (by simp)
          · rw [if_neg c8] at H
            have c8b0 : (t103 == 3 && (t104 == 4 && (t105 == 5))) = false := by simpa using c8
            (try (have c8b1 : decide (t103 = 3 && (t104 == 4 && (t105 == 5))) = false := by simpa using c8))
            (try (have c8b2 : (t103 == 3 && (t104 == 4 && (t105 == 5))) = false := by simpa using c8))
            (try (have c8b3 : ¬ (t103 = 3 && (t104 == 4 && (t105 == 5))) := by simpa using c8))
            clear c8
            rw [hr_.out] at H
            exact absurd H (by simp)
        · rw [if_neg c7] at H
          have c7b0 : (t101 == (-3)) = false := beq_eq_false_iff_ne.mpr c7
          have c7b1 : (t101 != (-3)) = true := bne_iff_ne.mpr c7
          rw [hr_.out] at H
          exact absurd H (by simp)
      · rw [if_neg c6] at H
        have c6b0 : (t110 == 0) = false := beq_eq_false_iff_ne.mpr c6
        have c6b1 : (t110 != 0) = true := bne_iff_ne.mpr c6
        rw [hr_.out] at H
        exact absurd H (by simp)
    · rw [if_neg c5] at H
      have c5b0 : (t106 == 0) = false := beq_eq_false_iff_ne.mpr c5
      have c5b1 : (t106 != 0) = true := bne_iff_ne.mpr c5
      rw [hr_.out] at H
      exact absurd H (by simp)
  · rw [if_neg c4] at H
    have c4b0 : (t102 == 0) = false := beq_eq_false_iff_ne.mpr c4
    have c4b1 : (t102 != 0) = true := bne_iff_ne.mpr c4
    rw [hr_.out] at H
    exact absurd H (by simp)
theorem goosenecklaw01_works.calls (k : Nat) (r : Bool) (w : World) (h : goosenecklaw01_works.f k = some r) :
    Calls Try.prog 19 #[] w fun e w' => e = .returned (.bool r) ∧ Below w.heap.size w w' := by
  have h1 : goosenecklaw01_works.f 40 = some true := by decide +kernel
  have h2 := at_rounds goosenecklaw01_works.mono (Nat.le_max_left k 40) h
  have h3 := at_rounds goosenecklaw01_works.mono (Nat.le_max_right k 40) h1
  have hr : r = true := Option.some.inj (h2.symm.trans h3)
  exact goosenecklaw01_works.callsT k r w ⟨hr⟩ h
end Go.Proofs.Ytegdcnjjelgpjaa.P
