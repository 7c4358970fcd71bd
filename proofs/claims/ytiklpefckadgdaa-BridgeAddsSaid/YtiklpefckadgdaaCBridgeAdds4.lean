/- The law BridgeAdds answers true at every input and leaves its arguments as they were; no condition. Part 5 of 5: the row. -/
import Derived.Test.YtiklpefckadgdaaCBridgeAdds0
import Derived.ChangeArms
import Derived.ChangeSame
import Derived.Deep.Slices
import Derived.WideShapes
import Derived.KernelRfl
import Derived.Test.YtiklpefckadgdaaCBridgeAdds3
import Derived.Test.YtiklpefckadgdaaCBridgeAdds1
import Derived.Test.YtiklpefckadgdaaCBridgeAdds2
import Derived.Test.YtiklpefckadgdaaRows
import Derived.WalkKit
import Derived.ProofKit
import Derived.OpenShut
import Derived.ShutString
import Derived.ChangeOld
import Derived.Below
import Derived.SizedLaws
import Derived.Carry
import Derived.Lib.SmallJoins
namespace Go.Proofs.Ytiklpefckadgdaa.P
open Go.RowKit Go.Deep Go.ChangeShapes Go.WideShapes Go.Proofs.YtiklpefckadgdaaW.PrintWords Go.Proofs.YtiklpefckadgdaaW.PrintLast Go.Proofs.YtiklpefckadgdaaW.PrintMore
def Opens {α : Type} (P : Program) (t : TypeId) (d : Kd α) (wf : α → Prop) : Prop :=
  ∀ (H : Type) (enc : TypeId × Value → H) (w : World) (base : Nat) (spare : Nat → Bool) (held : Bool) (fuel : Nat) (cs : List Value) (x : DataW H × List MemPlace), DataW.trod enc P w base spare held fuel t cs = some x → ∃ a : α, d.K w a cs ∧ wf a
def FieldsOpen {α : Type} (P : Program) (fs : List Field) (off : Nat) (d : Kd α) (wf : α → Prop) : Prop :=
  ∀ (H : Type) (enc : TypeId × Value → H) (w : World) (base : Nat) (spare : Nat → Bool) (held : Bool) (cs : List Value), (∀ f ∈ fs, ∃ n y, DataW.trod enc P w base spare held n f.type ((cs.drop f.offset).take (P.cellsOf f.type)) = some y) → cs.length = off + d.sz → ∃ a : α, d.K w a (cs.drop off) ∧ wf a
theorem Opens.int {P : Program} {t : TypeId} {k : IntKind} (hu : P.underlying t = some (.int k)) : Opens P t (Kd.int k) (fun n => (Lit.int k n).wf = true) := by
  intro H enc w base spare held fuel cs x h
  obtain ⟨n, rfl, _, hw⟩ := DataW.trod_int hu h
  exact ⟨n, rfl, hw⟩
theorem Opens.bool {P : Program} {t : TypeId} (hu : P.underlying t = some .bool) : Opens P t Kd.bool (fun _ => True) := by
  intro H enc w base spare held fuel cs x h
  obtain ⟨n, rfl, _⟩ := DataW.trod_bool hu h
  exact ⟨n, rfl, trivial⟩
theorem FieldsOpen.one {α : Type} {P : Program} {f : Field} {off : Nat} {d : Kd α} {wf : α → Prop} (ho : f.offset = off) (hs : P.cellsOf f.type = d.sz) (h : Opens P f.type d wf) : FieldsOpen P [f] off d wf := by
  intro H enc w base spare held cs hf hl
  obtain ⟨n, y, hy⟩ := hf f (List.mem_singleton.2 rfl)
  rw [ho, hs, List.take_of_length_le (by rw [List.length_drop]; omega)] at hy
  exact h H enc w base spare held n _ y hy
theorem FieldsOpen.cons {α β : Type} {P : Program} {f : Field} {fs : List Field} {off : Nat} {d : Kd α} {d' : Kd β} {wf : α → Prop} {wf' : β → Prop} (ho : f.offset = off) (hs : P.cellsOf f.type = d.sz) (h : Opens P f.type d wf) (h' : FieldsOpen P fs (off + d.sz) d' wf') :
    FieldsOpen P (f :: fs) off (Kd.pair d d') (fun x => wf x.1 ∧ wf' x.2) := by
  intro H enc w base spare held cs hf hl
  have hl' : cs.length = off + (d.sz + d'.sz) := hl
  obtain ⟨n, y, hy⟩ := hf f (List.mem_cons_self ..)
  rw [ho, hs] at hy
  obtain ⟨a, ha, wa⟩ := h H enc w base spare held n _ y hy
  obtain ⟨b, hb, wb⟩ := h' H enc w base spare held cs (fun g hg => hf g (List.mem_cons_of_mem _ hg)) (by omega)
  refine ⟨(a, b), ⟨_, _, ?_, ha, hb⟩, wa, wb⟩
  rw [← List.drop_drop, List.take_append_drop]
theorem Opens.struct {α : Type} {P : Program} {t : TypeId} {fs : Array Field} {d : Kd α} {wf : α → Prop} (hu : P.underlying t = some (.struct fs)) (hs : P.cellsOf t = d.sz) (h : FieldsOpen P fs.toList 0 d wf) : Opens P t d wf := by
  intro H enc w base spare held fuel cs x hx
  obtain ⟨xs, n, _, _, hl, hlen, hf⟩ := DataW.trod_struct hu hx
  have hk := h H enc w base spare held cs (fun f hf' => by
    obtain ⟨i, hi⟩ := List.getElem?_of_mem hf'
    have h1 := hf i f (by simpa using hi)
    have hlt : i < xs.length := by
      have := (List.getElem?_eq_some_iff.1 hi).1
      rw [hlen]; simpa using this
    rw [List.getElem?_eq_getElem hlt] at h1
    exact ⟨n, _, h1⟩) (by rw [hl, hs]; omega)
  simpa using hk
theorem Opens.iso {α β : Type} {P : Program} {t : TypeId} {d : Kd α} {f : β → α} {wf : α → Prop} (g : α → β) (hg : ∀ a, f (g a) = a) (h : Opens P t d wf) : Opens P t (Kd.iso d f) (fun b => wf (f b)) := by
  intro H enc w base spare held fuel cs x hx
  obtain ⟨a, ha, wa⟩ := h H enc w base spare held fuel cs x hx
  exact ⟨g a, by show d.K w (f (g a)) cs; rw [hg]; exact ha, by show wf (f (g a)); rw [hg]; exact wa⟩
theorem Opens.slice {α : Type} {P : Program} {t e : TypeId} {d : Kd α} {wf : α → Prop} (hu : P.underlying t = some (.slice e)) (hs : P.cellsOf e = d.sz) (h : Opens P e d wf) : Opens P t (Kd.slice e d) (fun l => l.length ≤ 9223372036854775807 ∧ ∀ x ∈ l, wf x) := by
  intro H enc w base spare held fuel cs x hx
  rcases open_slice hu hx with ⟨rfl, _⟩ | ⟨a, len, cap, m, n, D, Pl, rfl, hb, hl, hm, hmm, _, hel⟩
  · exact ⟨[], ⟨none, 0, rfl, Nat.le_refl _, rfl, by simp, fun h => absurd h (Nat.lt_irrefl 0)⟩, by simp, fun x hx => by cases hx⟩
  · have hlm : len ≤ m := by rw [hmm]; split <;> omega
    have hmx : cap ≤ 9223372036854775807 := by simpa [maxLen] using hm
    have key : ∀ k, k ≤ len → ∃ xs : List α, xs.length = k ∧ (∀ x ∈ xs, wf x) ∧ ∀ j p, xs[j]? = some p → ∃ c, c.length = d.sz ∧ d.K w p c ∧ ∀ i u, c[i]? = some u → w.cell? (a.add (j * d.sz + i)) = some u := by
      intro k
      induction k with
      | zero => intro _; exact ⟨[], rfl, (fun x hx => by cases hx), fun j p hj => by simp at hj⟩
      | succ k ih =>
        intro hk
        obtain ⟨xs, hxl, hxw, hxs⟩ := ih (by omega)
        obtain ⟨cs', hcs, htr⟩ := hel k (by omega)
        obtain ⟨_, hcl, hcell⟩ := World.cells?_some hcs
        obtain ⟨p, hp, wp⟩ := h H enc w base spare held n cs' _ htr
        refine ⟨xs ++ [p], by simp [hxl], ?_, ?_⟩
        · intro x hx
          rcases List.mem_append.1 hx with hx | hx
          · exact hxw x hx
          · rw [List.mem_singleton.1 hx]; exact wp
        · intro j q hj
          rcases Nat.lt_or_ge j xs.length with hj' | hj'
          · rw [List.getElem?_append_left hj'] at hj
            exact hxs j q hj
          · have hjk : j = k := by
              have := (List.getElem?_eq_some_iff.1 hj).1
              rw [List.length_append, List.length_singleton] at this
              omega
            subst hjk
            rw [List.getElem?_append_right (by omega)] at hj
            have hq : p = q := by simpa [hxl] using hj
            subst hq
            refine ⟨cs', by rw [hcl, hs], hp, fun i u hi => ?_⟩
            have hi' : i < cs'.length := (List.getElem?_eq_some_iff.1 hi).1
            have := hcell i (by omega)
            rw [Deep.add_add, hs] at this
            rw [this, hi]
    obtain ⟨xs, hxl, hxw, hxs⟩ := key len (Nat.le_refl _)
    subst hxl
    exact ⟨xs, ⟨some a, cap, rfl, hl, rfl, by omega, fun _ => ⟨a, rfl, hxs⟩⟩, by omega, hxw⟩
theorem wf_u8 {n : Int} (h : (Lit.int .u8 n).wf = true) : 0 ≤ n ∧ n ≤ 255 := by simpa [Lit.wf, IntKind.min, IntKind.max, IntKind.signed, IntKind.bits] using h
end Go.Proofs.Ytiklpefckadgdaa.P
namespace Go.Proofs.Ytiklpefckadgdaa.P
open Go.RowKit Go.Proofs.YtiklpefckadgdaaW.PrintWords Go.Proofs.YtiklpefckadgdaaW.PrintLast Go.Proofs.YtiklpefckadgdaaW.PrintMore
open Go.Deep Go.ChangeShapes Go.WideShapes
def wfS24 (x : S24) : Prop := (x.f0.length ≤ 9223372036854775807 ∧ ∀ x_ ∈ x.f0, (Lit.int .i64 x_).wf = true) ∧ (x.f1.length ≤ 9223372036854775807 ∧ ∀ x_ ∈ x.f1, (Lit.int .i64 x_).wf = true) ∧ (x.f2.length ≤ 9223372036854775807 ∧ ∀ x_ ∈ x.f2, (Lit.int .i64 x_).wf = true) ∧ (Lit.int .i64 x.f3).wf = true ∧ (Lit.int .i64 x.f4).wf = true ∧ (Lit.int .i64 x.f5).wf = true
theorem opens24 : Opens Try.prog 24 k24 wfS24 := Opens.iso (fun a => ⟨a.1, a.2.1, a.2.2.1, a.2.2.2.1, a.2.2.2.2.1, a.2.2.2.2.2⟩) (fun a => rfl) (Opens.struct Try.underlying24 (by kernel_rfl) (FieldsOpen.cons rfl (by kernel_rfl) (Opens.slice Try.underlying22 (by kernel_rfl) (Opens.int Try.underlying2)) (FieldsOpen.cons rfl (by kernel_rfl) (Opens.slice Try.underlying22 (by kernel_rfl) (Opens.int Try.underlying2)) (FieldsOpen.cons rfl (by kernel_rfl) (Opens.slice Try.underlying22 (by kernel_rfl) (Opens.int Try.underlying2)) (FieldsOpen.cons rfl (by kernel_rfl) (Opens.int Try.underlying2) (FieldsOpen.cons rfl (by kernel_rfl) (Opens.int Try.underlying3) (FieldsOpen.one rfl (by kernel_rfl) (Opens.int Try.underlying2))))))))
def wfS35 (x : S35) : Prop := (Lit.int .i64 x.f0).wf = true ∧ (Lit.int .i64 x.f1).wf = true
theorem opens35 : Opens Try.prog 35 k35 wfS35 := Opens.iso (fun a => ⟨a.1, a.2⟩) (fun a => rfl) (Opens.struct Try.underlying35 (by kernel_rfl) (FieldsOpen.cons rfl (by kernel_rfl) (Opens.int Try.underlying2) (FieldsOpen.one rfl (by kernel_rfl) (Opens.int Try.underlying2))))
end Go.Proofs.Ytiklpefckadgdaa.P
noncomputable section
namespace Go.Proofs.Ytiklpefckadgdaa.P
open Go.RowKit Go.Proofs.YtiklpefckadgdaaW.PrintWords Go.Proofs.YtiklpefckadgdaaW.PrintLast Go.Proofs.YtiklpefckadgdaaW.PrintMore
def BridgeAdds_Pure : Prop := ∀ (x0 : S24) (l1 : List (S35)) (a2 : Int) (a3 : Int) (a4 : Int) (a5 : Int), (wfS24 x0) → (l1.length ≤ 9223372036854775807 ∧ ∀ x_ ∈ l1, wfS35 x_) → ((Lit.int .i64 a2).wf = true) → ((Lit.int .i64 a3).wf = true) → ((Lit.int .i64 a4).wf = true) → ((Lit.int .u8 a5).wf = true) → ∃ k, goosenecklaw06_BridgeAdds.f k x0.f0 x0.f1 x0.f2 x0.f3 x0.f4 x0.f5 l1 a2 a3 a4 a5 = some true
end Go.Proofs.Ytiklpefckadgdaa.P
namespace Go.Proofs.Ytiklpefckadgdaa.P
open Go.RowKit Go.Proofs.YtiklpefckadgdaaW.PrintWords Go.Proofs.YtiklpefckadgdaaW.PrintLast Go.Proofs.YtiklpefckadgdaaW.PrintMore
theorem w64 {x : Int} (h0 : -9223372036854775808 ≤ x) (h1 : x ≤ 9223372036854775807) : wrap64 x = x := by unfold wrap64; omega
def inR (x lo hi : Int) : Bool := decide (lo ≤ x) && decide (x ≤ hi)
theorem inR_iff {x lo hi : Int} : inR x lo hi = true ↔ lo ≤ x ∧ x ≤ hi := by simp [inR]
theorem between_eq (x lo hi : Int) : bridge_between.f x lo hi = some (inR x lo hi) := by
  unfold bridge_between.f inR; split <;> rename_i h
  · have : lo ≤ x := h
    simp [this]
  · have : ¬ lo ≤ x := h
    simp [this]
def trainOk : Int → Bool → List S35 → Bool
  | _, _, [] => true
  | last, first, x :: r => decide (last ≤ x.f0) && (decide (x.f0 ≤ 262144) && ((!first || decide (x.f0 = 0)) && (inR x.f1 0 1048576 && trainOk x.f0 false r)))
def errT (l : List S35) : Int := if (l.length : Int) < 1 ∨ (l.length : Int) > 64 then 6 else if trainOk 0 true l = true then 0 else 2
theorem train_loop (l : List S35) (hl : l.length ≤ 64) (d : Nat) : ∀ (i : Nat) (last : Int), l.length - i = d → i ≤ l.length →
    Ev (fun k => bridge_CheckTrain.l0 k last l (l.length : Int) (i : Int)) (if trainOk last (decide (i = 0)) (l.drop i) = true then 0 else 2) := by
  induction d with
  | zero =>
    intro i last hd hi
    have he : i = l.length := by omega
    subst he
    rw [List.drop_length]
    refine Ev.step (f := fun _ => some 0) (fun k => ?_) (Ev.now _)
    simp only [bridge_CheckTrain.l0]
    rw [if_neg (by omega)]
  | succ d ih =>
    intro i last hd hi
    have hlt : i < l.length := by omega
    rw [List.drop_eq_getElem_cons hlt, trainOk]
    have hrec := ih (i + 1) l[i].f0 (by omega) (by omega)
    rw [show decide (i + 1 = 0) = false by simp] at hrec
    have hw : wrap64 ((i : Int) + 1) = ((i + 1 : Nat) : Int) := by rw [w64 (by omega) (by omega)]; rfl
    have hs : ∀ k, bridge_CheckTrain.l0 (k + 1) last l (l.length : Int) (i : Int) = if l[i].f0 < last then some 2 else if l[i].f0 > 262144 then some 2 else if (i : Int) = 0 then (if l[i].f0 = 0 then (if inR l[i].f1 0 1048576 = true then bridge_CheckTrain.l0 k l[i].f0 l (l.length : Int) ((i + 1 : Nat) : Int) else some 2) else some 2) else (if inR l[i].f1 0 1048576 = true then bridge_CheckTrain.l0 k l[i].f0 l (l.length : Int) ((i + 1 : Nat) : Int) else some 2) := by
      intro k
      simp only [bridge_CheckTrain.l0]
      rw [if_pos (by omega), if_pos (by omega), if_pos (by omega), rd35_get l i hlt, between_eq, hw]
      rfl
    refine Ev.step hs ?_
    by_cases h1 : l[i].f0 < last
    · simp only [if_pos h1]
      rw [if_neg (by simp; omega)]; exact Ev.now _
    · simp only [if_neg h1]
      by_cases h2 : l[i].f0 > 262144
      · simp only [if_pos h2]
        rw [if_neg (by simp; omega)]; exact Ev.now _
      · simp only [if_neg h2]
        have a1 : decide (last ≤ l[i].f0) = true := by simp; omega
        have a2 : decide (l[i].f0 ≤ 262144) = true := by simp; omega
        rw [a1, a2, Bool.true_and, Bool.true_and]
        cases h3 : inR l[i].f1 0 1048576
        · have : ((!decide (i = 0) || decide (l[i].f0 = 0)) && (false && trainOk l[i].f0 false (l.drop (i + 1)))) = false := by simp
          rw [this]
          simp only [Bool.false_eq_true, if_false]
          by_cases h4 : (i : Int) = 0
          · simp only [if_pos h4]
            by_cases h5 : l[i].f0 = 0
            · simp only [if_pos h5, Bool.false_eq_true, if_false]; exact Ev.now _
            · simp only [if_neg h5, Bool.false_eq_true, if_false]; exact Ev.now _
          · simp only [if_neg h4, Bool.false_eq_true, if_false]; exact Ev.now _
        · by_cases h4 : (i : Int) = 0
          · simp only [if_pos h4, if_true]
            by_cases h5 : l[i].f0 = 0
            · simp only [if_pos h5]
              have : ((!decide (i = 0) || decide (l[i].f0 = 0)) && (true && trainOk l[i].f0 false (l.drop (i + 1)))) = trainOk l[i].f0 false (l.drop (i + 1)) := by simp [h5]
              rw [this]; exact hrec
            · simp only [if_neg h5]
              have : ((!decide (i = 0) || decide (l[i].f0 = 0)) && (true && trainOk l[i].f0 false (l.drop (i + 1)))) = false := by simp [h5]; omega
              rw [this]; exact Ev.now _
          · simp only [if_neg h4, if_true]
            have : ((!decide (i = 0) || decide (l[i].f0 = 0)) && (true && trainOk l[i].f0 false (l.drop (i + 1)))) = trainOk l[i].f0 false (l.drop (i + 1)) := by
              have : ¬ i = 0 := by omega
              simp [this]
            rw [this]; exact hrec
theorem checkTrain_ev (l : List S35) : Ev (fun k => bridge_CheckTrain.f k l) (errT l) := by
  unfold bridge_CheckTrain.f errT
  by_cases h1 : (l.length : Int) < 1
  · rw [if_pos (.inl h1)]
    simp only [if_pos h1]
    refine Ev.step (f := fun _ => some 6) (fun k => ?_) (Ev.now _)
    rw [bridge_CheckTrain.j0, if_pos rfl]
  · simp only [if_neg h1]
    by_cases h2 : (l.length : Int) > 64
    · rw [if_pos (.inr h2)]
      refine Ev.step (f := fun _ => some 6) (fun k => ?_) (Ev.now _)
      rw [bridge_CheckTrain.j0, if_pos (by simpa using h2)]
    · rw [if_neg (by omega)]
      refine Ev.step (fun k => ?_) (train_loop l (by omega) l.length 0 0 (by omega) (by omega))
      rw [bridge_CheckTrain.j0, if_neg (by simpa using h2)]
      rfl
theorem errT_zero {l : List S35} (h : errT l = 0) : 1 ≤ l.length ∧ l.length ≤ 64 ∧ trainOk 0 true l = true := by
  unfold errT at h
  split at h
  · cases h
  · split at h
    · exact ⟨by omega, by omega, by assumption⟩
    · cases h
theorem trainOk_all {l : List S35} : ∀ {last : Int} {first : Bool}, trainOk last first l = true → ∀ x ∈ l, last ≤ x.f0 ∧ x.f0 ≤ 262144 ∧ 0 ≤ x.f1 ∧ x.f1 ≤ 1048576 := by
  induction l with
  | nil => intro _ _ _ x hx; cases hx
  | cons y r ih =>
    intro last first h x hx
    simp only [trainOk, Bool.and_eq_true, decide_eq_true_eq, inR_iff] at h
    obtain ⟨h1, h2, _, h3, h4⟩ := h
    rcases List.mem_cons.1 hx with rfl | hx
    · exact ⟨h1, h2, h3⟩
    · have := ih h4 x hx
      omega
def spansOk : List Int → List Int → List Int → Bool
  | [], _, _ => true
  | l :: r, m :: ms, s :: ss => inR l 100 131072 && (inR m 1 1073741824 && (inR s 1 1073741824 && spansOk r ms ss))
  | _, _, _ => false
def errB (l m s : List Int) (dyn lanes traffic : Int) : Int :=
  if (l.length : Int) < 1 ∨ (l.length : Int) > 6 then 6 else if ¬ ((m.length : Int) = l.length ∧ (s.length : Int) = l.length) then 17 else
  if ¬ (inR dyn 0 1000 = true ∧ 1 ≤ lanes ∧ lanes ≤ 4 ∧ inR traffic 0 4096 = true) then 2 else if spansOk l m s = true then 0 else 2
theorem check_loop (l m s : List Int) (a b c : Int) (hl : l.length ≤ 6) (hm : m.length = l.length) (hs : s.length = l.length) (d : Nat) : ∀ (i : Nat), l.length - i = d → i ≤ l.length →
    Ev (fun k => bridge_Check.l0 k l (l.length : Int) (i : Int) l m s a b c) (if spansOk (l.drop i) (m.drop i) (s.drop i) = true then 0 else 2) := by
  induction d with
  | zero =>
    intro i hd hi
    have he : i = l.length := by omega
    subst he
    rw [List.drop_length]
    refine Ev.step (f := fun _ => some 0) (fun k => ?_) (by simpa [spansOk] using Ev.now (0 : Int))
    simp only [bridge_Check.l0]
    rw [if_neg (by omega)]
  | succ d ih =>
    intro i hd hi
    have hlt : i < l.length := by omega
    have hltm : i < m.length := by omega
    have hlts : i < s.length := by omega
    rw [List.drop_eq_getElem_cons hlt, List.drop_eq_getElem_cons hltm, List.drop_eq_getElem_cons hlts, spansOk]
    have hrec := ih (i + 1) (by omega) (by omega)
    have hw : wrap64 ((i : Int) + 1) = ((i + 1 : Nat) : Int) := by rw [w64 (by omega) (by omega)]; rfl
    have hstep : ∀ k, bridge_Check.l0 (k + 1) l (l.length : Int) (i : Int) l m s a b c = if inR l[i] 100 131072 = true then (if inR m[i] 1 1073741824 = true then (if inR s[i] 1 1073741824 = true then bridge_Check.l0 k l (l.length : Int) ((i + 1 : Nat) : Int) l m s a b c else some 2) else some 2) else some 2 := by
      intro k
      simp only [bridge_Check.l0]
      rw [if_pos (by omega), if_pos (by omega), if_pos (by omega), rd_get l i hlt, between_eq, hw, if_pos (show (i : Int) < (m.length : Int) by omega), if_pos (show (i : Int) < (s.length : Int) by omega), rd_get m i hltm, rd_get s i hlts, between_eq, between_eq]
      rfl
    refine Ev.step hstep ?_
    cases h1 : inR l[i] 100 131072
    · simpa using Ev.now (2 : Int)
    · cases h2 : inR m[i] 1 1073741824
      · simpa using Ev.now (2 : Int)
      · cases h3 : inR s[i] 1 1073741824
        · simpa using Ev.now (2 : Int)
        · simpa using hrec
theorem check_ev (l m s : List Int) (a b c : Int) : Ev (fun k => bridge_Check.f k l m s a b c) (errB l m s a b c) := by
  unfold bridge_Check.f errB
  by_cases h1 : (l.length : Int) < 1
  · rw [if_pos (.inl h1)]
    simp only [if_pos h1]
    refine Ev.step (f := fun _ => some 6) (fun k => ?_) (Ev.now _)
    rw [bridge_Check.j0, if_pos rfl]
  · simp only [if_neg h1]
    by_cases h2 : (l.length : Int) > 6
    · rw [if_pos (.inr h2)]
      refine Ev.step (f := fun _ => some 6) (fun k => ?_) (Ev.now _)
      rw [bridge_Check.j0, if_pos (by simpa using h2)]
    · rw [if_neg (by omega)]
      have hj : ∀ k, bridge_Check.j0 (k + 1) (l.length : Int) (decide ((l.length : Int) > 6)) l m s a b c = if (m.length : Int) = l.length then bridge_Check.j1 k ((s.length : Int) != l.length) l m s a b c else bridge_Check.j1 k true l m s a b c := by
        intro k
        rw [bridge_Check.j0, if_neg (by simpa using h2)]
      refine Ev.step hj ?_
      by_cases h3 : (m.length : Int) = l.length
      · simp only [if_pos h3]
        by_cases h4 : (s.length : Int) = l.length
        · rw [if_neg (by simp [h3, h4])]
          have hj1 : ∀ k, bridge_Check.j1 (k + 1) ((s.length : Int) != l.length) l m s a b c = if inR a 0 1000 = true then (if b < 1 then some 2 else if b > 4 then some 2 else if inR c 0 4096 = true then bridge_Check.l0 k l (l.length : Int) ((0 : Nat) : Int) l m s a b c else some 2) else some 2 := by
            intro k
            rw [bridge_Check.j1, if_neg (by simp [h4])]
            simp only [between_eq, Option.bind_some]
            rfl
          refine Ev.step hj1 ?_
          by_cases h5 : inR a 0 1000 = true ∧ 1 ≤ b ∧ b ≤ 4 ∧ inR c 0 4096 = true
          · rw [if_neg (by simpa using h5)]
            simp only [if_pos h5.1, if_neg (show ¬ b < 1 by omega), if_neg (show ¬ b > 4 by omega), if_pos h5.2.2.2]
            have := check_loop l m s a b c (by omega) (by omega) (by omega) l.length 0 (by omega) (by omega)
            simpa using this
          · rw [if_pos h5]
            by_cases g1 : inR a 0 1000 = true
            · simp only [if_pos g1]
              by_cases g2 : b < 1
              · simp only [if_pos g2]; exact Ev.now _
              · simp only [if_neg g2]
                by_cases g3 : b > 4
                · simp only [if_pos g3]; exact Ev.now _
                · simp only [if_neg g3]
                  by_cases g4 : inR c 0 4096 = true
                  · exact absurd ⟨g1, by omega, by omega, g4⟩ h5
                  · simp only [if_neg g4]; exact Ev.now _
            · simp only [if_neg g1]; exact Ev.now _
        · rw [if_pos (by simp [h4])]
          refine Ev.step (f := fun _ => some 17) (fun k => ?_) (Ev.now _)
          rw [bridge_Check.j1, if_pos (by simp [h4])]
      · simp only [if_neg h3]
        rw [if_pos (by simp [h3])]
        refine Ev.step (f := fun _ => some 17) (fun k => ?_) (Ev.now _)
        rw [bridge_Check.j1, if_pos rfl]
theorem errB_zero {l m s : List Int} {a b c : Int} (h : errB l m s a b c = 0) : 1 ≤ l.length ∧ l.length ≤ 6 ∧ m.length = l.length ∧ s.length = l.length ∧ (0 ≤ a ∧ a ≤ 1000) ∧ (1 ≤ b ∧ b ≤ 4) ∧ (0 ≤ c ∧ c ≤ 4096) ∧ spansOk l m s = true := by
  unfold errB at h
  split at h
  · cases h
  · split at h
    · cases h
    · split at h
      · cases h
      · split at h
        · rename_i h1 h2 h3 h4
          have h2 := Decidable.not_not.1 h2
          have h3 := Decidable.not_not.1 h3
          exact ⟨by omega, by omega, by omega, by omega, inR_iff.1 h3.1, ⟨h3.2.1, h3.2.2.1⟩, inR_iff.1 h3.2.2.2, h4⟩
        · cases h
theorem spansOk_get : ∀ {l m s : List Int}, spansOk l m s = true → ∀ (i : Nat) (h : i < l.length), 100 ≤ l[i] ∧ l[i] ≤ 131072
  | [], _, _, _, i, h => by simp at h
  | x :: r, y :: ys, z :: zs, hk, i, h => by
    simp only [spansOk, Bool.and_eq_true, inR_iff] at hk
    cases i with
    | zero => exact hk.1
    | succ i => exact spansOk_get hk.2.2.2 i (by simpa using h)
  | _ :: _, [], _, hk, _, _ => by simp [spansOk] at hk
  | _ :: _, _ :: _, [], hk, _, _ => by simp [spansOk] at hk
def errBT (l m s : List Int) (a b c : Int) (t : List S35) : Int := if errB l m s a b c ≠ 0 then errB l m s a b c else errT t
theorem or80 (a b : Int) : cmp_Or_80.f 3 [a, b] = some (if a ≠ 0 then a else b) := by
  by_cases h : a = 0
  · subst h
    by_cases h2 : b = 0
    · subst h2; decide +kernel
    · simp [cmp_Or_80.f, cmp_Or_80.l0, h2, rd, wrap64]
  · simp [cmp_Or_80.f, cmp_Or_80.l0, h, rd]
theorem both_ev (l m s : List Int) (a b c : Int) (t : List S35) : Ev (fun k => bridge_both.f k l m s a b c t) (errBT l m s a b c t) := by
  unfold bridge_both.f
  refine Ev.bind (check_ev l m s a b c) (Ev.bind (checkTrain_ev t) ?_)
  refine Ev.bind (Ev.of (fun k => cmp_Or_80.mono _ k) (or80 _ _)) (Ev.now _)
def errS (l m s : List Int) (a b c : Int) (t : List S35) (k : Int) : Int := if errBT l m s a b c t ≠ 0 then errBT l m s a b c t else if k < 0 ∨ (l.length : Int) ≤ k then 5 else 0
theorem span_lim (l m s : List Int) (a b c : Int) (t : List S35) (k : Int) : (limO fun n => bridge_span.f n l m s a b c t k) = some (errS l m s a b c t k) := by
  refine limO_ev (fun n => bridge_span.mono _ _ _ _ _ _ _ _ n) ?_
  unfold bridge_span.f errS
  refine Ev.bind (both_ev l m s a b c t) ?_
  by_cases h : errBT l m s a b c t = 0
  · rw [if_neg (show ¬ errBT l m s a b c t ≠ 0 from fun g => g h)]
    simp only [if_pos h]
    by_cases h1 : k < 0
    · simp only [if_pos h1]
      rw [if_pos (.inl h1)]; exact Ev.now _
    · simp only [if_neg h1]
      by_cases h2 : k ≥ (l.length : Int)
      · simp only [if_pos h2]
        rw [if_pos (.inr h2)]; exact Ev.now _
      · simp only [if_neg h2]
        rw [if_neg (by omega)]; exact Ev.now _
  · rw [if_pos (show errBT l m s a b c t ≠ 0 from h)]
    simp only [if_neg h]
    exact Ev.now _
theorem errS_zero {l m s : List Int} {a b c : Int} {t : List S35} {k : Int} (h : errS l m s a b c t k = 0) : errB l m s a b c = 0 ∧ errT t = 0 ∧ 0 ≤ k ∧ k < (l.length : Int) := by
  unfold errS at h
  split at h
  · exact absurd h (by assumption)
  · rename_i hw
    have hw := Decidable.not_not.1 hw
    unfold errBT at hw
    split at h
    · cases h
    · split at hw
      · exact absurd hw (by assumption)
      · exact ⟨Decidable.not_not.1 (by assumption), hw, by omega, by omega⟩
end Go.Proofs.Ytiklpefckadgdaa.P
namespace Go.Proofs.Ytiklpefckadgdaa.P
open Go.RowKit Go.Proofs.YtiklpefckadgdaaW.PrintWords Go.Proofs.YtiklpefckadgdaaW.PrintLast Go.Proofs.YtiklpefckadgdaaW.PrintMore
def effS (line : Int → Int) (s : Int) : List S35 → Int
  | [] => 0
  | x :: r => x.f1 * line (s - x.f0) + effS line s r
def OkForce (x : S35) : Prop := (0 ≤ x.f0 ∧ x.f0 ≤ 262144) ∧ (0 ≤ x.f1 ∧ x.f1 ≤ 1048576)
theorem effS_bd {line : Int → Int} {s : Int} (hline : ∀ a, 0 ≤ line a ∧ line a ≤ 17179869184) : ∀ {l : List S35}, (∀ x ∈ l, OkForce x) → 0 ≤ effS line s l ∧ effS line s l ≤ l.length * 18014398509481984
  | [], _ => by simp [effS]
  | x :: r, h => by
    have ih := effS_bd (line := line) (s := s) hline (l := r) (fun y hy => h y (List.mem_cons_of_mem _ hy))
    have hx := h x (List.mem_cons_self ..)
    have hb := hline (s - x.f0)
    have m0 := Int.mul_nonneg hx.2.1 hb.1
    have m1 := Int.mul_le_mul hx.2.2 hb.2 hb.1 (by omega)
    simp only [effS, List.length_cons] at *
    omega
theorem sumW_from {line : Int → Int} {s : Int} (hline : ∀ a, 0 ≤ line a ∧ line a ≤ 17179869184) (hs : -1099511627776 ≤ s ∧ s ≤ 1099511627776) : ∀ (l : List S35) (n : Int), (∀ x ∈ l, OkForce x) → 0 ≤ n → n + l.length * 18014398509481984 ≤ 2305843009213693952 →
    (l.map (axleW line s)).foldl (fun n x => wrap64 (n + x)) n = n + effS line s l
  | [], n, _, _, _ => by simp [effS]
  | x :: r, n, h, h0, h1 => by
    have hx := h x (List.mem_cons_self ..)
    have hb := hline (s - x.f0)
    have m0 := Int.mul_nonneg hx.2.1 hb.1
    have m1 := Int.mul_le_mul hx.2.2 hb.2 hb.1 (by omega)
    have e1 : wrap64 (s - x.f0) = s - x.f0 := by have := hx.1; exact w64 (by omega) (by omega)
    have ea : axleW line s x = x.f1 * line (s - x.f0) := by
      unfold axleW
      rw [e1]
      by_cases hp : 0 < x.f1
      · rw [if_pos hp, w64 (by omega) (by omega)]
      · rw [if_neg hp]
        have hx2 : 0 ≤ x.f1 := hx.2.1
        have : x.f1 = 0 := by omega
        rw [this, Int.zero_mul]
    simp only [List.length_cons] at h1
    rw [List.map_cons, List.foldl_cons, ea, w64 (by omega) (by omega), sumW_from hline hs r _ (fun y hy => h y (List.mem_cons_of_mem _ hy)) (by omega) (by omega), effS]
    omega
theorem effW_eq {line : Int → Int} {s : Int} {l : List S35} (hline : ∀ a, 0 ≤ line a ∧ line a ≤ 17179869184) (hs : -1099511627776 ≤ s ∧ s ≤ 1099511627776) (hl : l.length ≤ 64) (h : ∀ x ∈ l, OkForce x) :
    effW line l s = effS line s l := by
  have := sumW_from hline hs l 0 h (by omega) (by omega)
  simpa [effW, sumW] using this
theorem effS_congr {f g : Int → Int} {s t : Int} : ∀ {l : List S35}, (∀ x ∈ l, f (s - x.f0) = g (t - x.f0)) → effS f s l = effS g t l
  | [], _ => rfl
  | x :: r, h => by
    rw [effS, effS, h x (List.mem_cons_self ..), effS_congr (fun y hy => h y (List.mem_cons_of_mem _ hy))]
def momentI (l x a : Int) : Int := if a < 0 ∨ l < a then 0 else if a ≤ x then a * (l - x) else x * (l - a)
def endI (l : Int) (right : Bool) (a : Int) : Int := if a < 0 ∨ l < a then 0 else if right = true then a else l - a
theorem momentW_eq {s l x a : Int} (ha : -4611686018427387904 ≤ a - s ∧ a - s ≤ 4611686018427387904) (hl : 0 ≤ l ∧ l ≤ 131072) (hx : 0 ≤ x ∧ x ≤ l) : momentW s l x a = momentI l x (a - s) := by
  unfold momentW momentI
  rw [w64 (x := a - s) (by omega) (by omega)]
  by_cases h : a - s < 0 ∨ l < a - s
  · rw [if_pos h, if_pos h]
  · rw [if_neg h, if_neg h, w64 (x := l - x) (by omega) (by omega), w64 (x := l - (a - s)) (by omega) (by omega)]
    have hb : ∀ u v : Int, 0 ≤ u → u ≤ 131072 → 0 ≤ v → v ≤ 131072 → wrap64 (u * v) = u * v := fun u v h0 h1 h2 h3 => by
      have := Int.mul_nonneg h0 h2
      have := Int.mul_le_mul h1 h3 h2 (by omega)
      exact w64 (by omega) (by omega)
    rw [hb _ _ (by omega) (by omega) (by omega) (by omega), hb _ _ (by omega) (by omega) (by omega) (by omega)]
theorem momentI_bd {l x : Int} (hl : 0 ≤ l ∧ l ≤ 131072) (hx : 0 ≤ x ∧ x ≤ l) (a : Int) : 0 ≤ momentI l x a ∧ momentI l x a ≤ 17179869184 := by
  have hb : ∀ u v : Int, 0 ≤ u → u ≤ 131072 → 0 ≤ v → v ≤ 131072 → 0 ≤ u * v ∧ u * v ≤ 17179869184 := fun u v h0 h1 h2 h3 => by
    have := Int.mul_nonneg h0 h2
    have := Int.mul_le_mul h1 h3 h2 (by omega)
    omega
  unfold momentI
  split
  · omega
  · split
    · exact hb _ _ (by omega) (by omega) (by omega) (by omega)
    · exact hb _ _ (by omega) (by omega) (by omega) (by omega)
theorem endI_bd {l : Int} {right : Bool} (hl : 0 ≤ l ∧ l ≤ 131072) (a : Int) : 0 ≤ endI l right a ∧ endI l right a ≤ 17179869184 := by
  unfold endI
  split
  · omega
  · split <;> omega
theorem best_some (l : List S29) (hne : l ≠ []) : ∃ b, bestO ltW l = some b ∧ b ∈ l ∧ ∀ x ∈ l, x.f0 ≤ b.f0 := by
  have key : ∀ (l : List S29) (o : Option S29), (∃ b, l.foldl (bestStep ltW) o = some b ∧ (b ∈ l ∨ o = some b) ∧ (∀ x ∈ l, x.f0 ≤ b.f0) ∧ (∀ x, o = some x → x.f0 ≤ b.f0)) ∨ (l = [] ∧ o = none) := by
    intro l
    induction l with
    | nil =>
      intro o
      cases o with
      | none => exact .inr ⟨rfl, rfl⟩
      | some b => exact .inl ⟨b, rfl, .inr rfl, by simp, fun x hx => by cases hx; exact Int.le_refl _⟩
    | cons x r ih =>
      intro o
      left
      rw [List.foldl_cons]
      rcases ih (bestStep ltW o x) with ⟨b, h1, h2, h3, h4⟩ | ⟨_, h2⟩
      · refine ⟨b, h1, ?_, ?_, ?_⟩
        · rcases h2 with h2 | h2
          · exact .inl (List.mem_cons_of_mem _ h2)
          · cases o with
            | none => cases h2; exact .inl (List.mem_cons_self ..)
            | some c =>
              simp only [bestStep] at h2
              split at h2
              · cases h2; exact .inl (List.mem_cons_self ..)
              · cases h2; exact .inr rfl
        · intro y hy
          rcases List.mem_cons.1 hy with rfl | hy
          · cases o with
            | none => exact h4 _ rfl
            | some c =>
              by_cases hlt : ltW c y = true
              · exact h4 _ (by simp [bestStep, hlt])
              · have := h4 c (by simp [bestStep, hlt])
                simp [ltW] at hlt
                omega
          · exact h3 y hy
        · intro y hy
          subst hy
          by_cases hlt : ltW y x = true
          · have := h4 x (by simp [bestStep, hlt])
            simp [ltW] at hlt
            omega
          · exact h4 y (by simp [bestStep, hlt])
      · cases o <;> simp [bestStep] at h2
        split at h2 <;> cases h2
  rcases key l none with ⟨b, h1, h2, h3, _⟩ | ⟨h, _⟩
  · refine ⟨b, h1, ?_, h3⟩
    rcases h2 with h2 | h2
    · exact h2
    · cases h2
  · exact absurd h hne
end Go.Proofs.Ytiklpefckadgdaa.P
namespace Go.Proofs.Ytiklpefckadgdaa.P
open Go.RowKit Go.Proofs.YtiklpefckadgdaaW.PrintWords Go.Proofs.YtiklpefckadgdaaW.PrintLast Go.Proofs.YtiklpefckadgdaaW.PrintMore
theorem WorstMoment_eq (l m s : List Int) (a b c : Int) (t : List S35) (k x : Int) : bridge_WorstMoment.f l m s a b c t k x =
    some (if errS l m s a b c t k = 0 then (if inR x 0 (rd l k) = true then effT (momentWorst l t k.toNat (rd l k) x) 0 else effT z29 3) else effT z29 (errS l m s a b c t k)) := by
  unfold bridge_WorstMoment.f
  rw [span_lim, Option.bind_some]
  by_cases h : errS l m s a b c t k = 0
  · rw [if_pos h, if_pos h]
    obtain ⟨h1, h2, h3, h4⟩ := errS_zero h
    have g1 := errB_zero h1
    have g2 := errT_zero h2
    rw [if_pos ⟨h3, h4, by omega, by omega⟩, between_eq, Option.bind_some]
    split <;> rfl
  · rw [if_neg h, if_neg h]
theorem mem_breaks {l : List S35} {ks : List Int} {s : Int} : s ∈ breaksL l ks ↔ ∃ x ∈ l, ∃ k ∈ ks, s = wrap64 (k + x.f0) := by
  simp only [breaksL, breakRow, List.mem_flatMap, List.mem_map]
  constructor
  · rintro ⟨x, hx, k, hk, rfl⟩; exact ⟨x, hx, k, hk, rfl⟩
  · rintro ⟨x, hx, k, hk, rfl⟩; exact ⟨x, hx, k, hk, rfl⟩
theorem breaks_ne {l : List S35} {k : Int} {ks : List Int} (h : l ≠ []) : breaksL l (k :: ks) ≠ [] := by
  cases l with
  | nil => exact absurd rfl h
  | cons x r => simp [breaksL, breakRow]
theorem worst_val (line : Int → Int) (l : List S35) (ks : List Int) (span point : Int) (hne : breaksL l ks ≠ []) :
    (∃ s ∈ breaksL l ks, worstW line l ks span point = ⟨effW line l s, span, point, s⟩) ∧ ∀ s ∈ breaksL l ks, effW line l s ≤ (worstW line l ks span point).f0 := by
  obtain ⟨b, h1, h2, h3⟩ := best_some (effectsL line l ks span point) (by simpa [effectsL] using hne)
  unfold worstW
  rw [h1, Option.getD_some]
  simp only [effectsL, List.mem_map] at h2 h3
  obtain ⟨s, hs, rfl⟩ := h2
  refine ⟨⟨s, hs, rfl⟩, fun t ht => h3 _ ⟨t, ht, rfl⟩⟩
theorem worst_le {line line' : Int → Int} {l l' : List S35} {ks ks' : List Int} {span point span' point' : Int} (hne : breaksL l ks ≠ []) (hne' : breaksL l' ks' ≠ [])
    (h : ∀ s ∈ breaksL l ks, ∃ t ∈ breaksL l' ks', effW line l s ≤ effW line' l' t) : (worstW line l ks span point).f0 ≤ (worstW line' l' ks' span' point').f0 := by
  obtain ⟨⟨s, hs, e⟩, _⟩ := worst_val line l ks span point hne
  obtain ⟨t, ht, hle⟩ := h s hs
  have := (worst_val line' l' ks' span' point' hne').2 t ht
  rw [e]
  exact Int.le_trans hle this
theorem momentW_I {s l x a : Int} (hl : 0 ≤ l ∧ l ≤ 131072) (hx : 0 ≤ x ∧ x ≤ l) : momentW s l x a = momentI l x (wrap64 (a - s)) := by
  unfold momentW momentI
  by_cases h : wrap64 (a - s) < 0 ∨ l < wrap64 (a - s)
  · rw [if_pos h, if_pos h]
  · rw [if_neg h, if_neg h, w64 (x := l - x) (by omega) (by omega), w64 (x := l - wrap64 (a - s)) (by omega) (by omega)]
    have hb : ∀ u v : Int, 0 ≤ u → u ≤ 131072 → 0 ≤ v → v ≤ 131072 → wrap64 (u * v) = u * v := fun u v h0 h1 h2 h3 => by
      have := Int.mul_nonneg h0 h2
      have := Int.mul_le_mul h1 h3 h2 (by omega)
      exact w64 (by omega) (by omega)
    rw [hb _ _ (by omega) (by omega) (by omega) (by omega), hb _ _ (by omega) (by omega) (by omega) (by omega)]
theorem endW_I {s l a : Int} {right : Bool} (hl : 0 ≤ l ∧ l ≤ 131072) : endW s l right a = endI l right (wrap64 (a - s)) := by
  unfold endW endI
  by_cases h : wrap64 (a - s) < 0 ∨ l < wrap64 (a - s)
  · rw [if_pos h, if_pos h]
  · rw [if_neg h, if_neg h, w64 (x := l - wrap64 (a - s)) (by omega) (by omega)]
theorem okForces {l : List S35} (h : errT l = 0) : ∀ x ∈ l, OkForce x := fun x hx => by
  have := trainOk_all (errT_zero h).2.2 x hx
  exact ⟨⟨this.1, this.2.1⟩, this.2.2⟩
theorem effW_moment {o L x s : Int} {l : List S35} (ho : 0 ≤ o ∧ o ≤ 1048576) (hL : 0 ≤ L ∧ L ≤ 131072) (hx : 0 ≤ x ∧ x ≤ L) (hs : -1099511627776 ≤ s ∧ s ≤ 1099511627776) (h : errT l = 0) :
    effW (momentW o L x) l s = effS (fun a => momentI L x (a - o)) s l := by
  rw [effW_eq (fun a => by rw [momentW_I hL hx]; exact momentI_bd hL hx _) hs (errT_zero h).2.1 (okForces h)]
  refine effS_congr fun y hy => ?_
  have := (okForces h y hy).1
  rw [momentW_I hL hx, w64 (by omega) (by omega)]
theorem effW_end {o L s : Int} {right : Bool} {l : List S35} (ho : 0 ≤ o ∧ o ≤ 1048576) (hL : 0 ≤ L ∧ L ≤ 131072) (hs : -1099511627776 ≤ s ∧ s ≤ 1099511627776) (h : errT l = 0) :
    effW (endW o L right) l s = effS (fun a => endI L right (a - o)) s l := by
  rw [effW_eq (fun a => by rw [endW_I hL]; exact endI_bd hL _) hs (errT_zero h).2.1 (okForces h)]
  refine effS_congr fun y hy => ?_
  have := (okForces h y hy).1
  rw [endW_I hL, w64 (by omega) (by omega)]
theorem trainOk_iff : ∀ (l : List S35) (last : Int) (first : Bool), trainOk last first l = true ↔ l.Pairwise (fun x y => x.f0 ≤ y.f0) ∧ (∀ x ∈ l, last ≤ x.f0 ∧ x.f0 ≤ 262144 ∧ 0 ≤ x.f1 ∧ x.f1 ≤ 1048576) ∧ (first = true → ∀ y ∈ l.head?, y.f0 = 0)
  | [], last, first => by simp [trainOk]
  | x :: r, last, first => by
    have ih := trainOk_iff r x.f0 false
    simp only [trainOk, Bool.and_eq_true, decide_eq_true_eq, inR_iff, ih, List.pairwise_cons, List.mem_cons, List.head?_cons, Option.mem_def, Option.some.injEq]
    constructor
    · rintro ⟨h1, h2, h3, h4, h5, h6, _⟩
      refine ⟨⟨fun y hy => (h6 y hy).1, h5⟩, ?_, ?_⟩
      · rintro y (rfl | hy)
        · exact ⟨h1, h2, h4⟩
        · have := h6 y hy
          omega
      · rintro rfl y rfl
        simpa using h3
    · rintro ⟨⟨h1, h2⟩, h3, h4⟩
      have hx := h3 x (.inl rfl)
      refine ⟨hx.1, hx.2.1, ?_, hx.2.2, h2, fun y hy => ⟨h1 y hy, (h3 y (.inr hy)).2⟩, by simp⟩
      cases first
      · simp
      · simpa using h4 rfl x rfl
end Go.Proofs.Ytiklpefckadgdaa.P
namespace Go.Proofs.Ytiklpefckadgdaa.P
open Go.RowKit Go.Proofs.YtiklpefckadgdaaW.PrintWords Go.Proofs.YtiklpefckadgdaaW.PrintLast Go.Proofs.YtiklpefckadgdaaW.PrintMore
theorem set_ok {l : List S35} {k : Nat} {P : Int} (h : errT l = 0) (hk : k < l.length) (hP : 0 ≤ P ∧ P ≤ 1048576) : errT (l.set k ⟨l[k].f0, P⟩) = 0 := by
  obtain ⟨h1, h2, h3⟩ := errT_zero h
  obtain ⟨p1, p2, p3⟩ := (trainOk_iff l 0 true).1 h3
  unfold errT
  rw [if_neg (by rw [List.length_set]; omega), if_pos]
  refine (trainOk_iff _ _ _).2 ⟨?_, ?_, ?_⟩
  · have e : (l.set k ⟨l[k].f0, P⟩).map (fun x : S35 => x.f0) = l.map (fun x : S35 => x.f0) := by
      rw [List.map_set]
      apply List.ext_getElem
      · simp
      · intro i g1 g2
        rw [List.getElem_set]
        split
        · rename_i g; subst g; simp
        · rfl
    have q1 : (l.map fun x : S35 => x.f0).Pairwise (· ≤ ·) := List.pairwise_map.2 p1
    rw [← e] at q1
    exact List.pairwise_map.1 q1
  · intro x hx
    rcases List.mem_or_eq_of_mem_set hx with hx | rfl
    · exact p2 x hx
    · have := p2 _ (List.getElem_mem hk)
      simp only
      omega
  · intro hf y hy
    cases l with
    | nil => simp at hk
    | cons a r =>
      cases k with
      | zero =>
        simp only [List.set_cons_zero, List.head?_cons, Option.mem_def, Option.some.injEq] at hy
        subst hy
        exact p3 hf a rfl
      | succ k =>
        simp only [List.set_cons_succ, List.head?_cons, Option.mem_def, Option.some.injEq] at hy
        subst hy
        exact p3 hf a rfl
theorem f0_set {l : List S35} {k : Nat} {P : Int} (hk : k < l.length) : (l.set k ⟨l[k].f0, P⟩).map (fun x : S35 => x.f0) = l.map (fun x : S35 => x.f0) := by
  rw [List.map_set]
  apply List.ext_getElem
  · simp
  · intro i g1 g2
    rw [List.getElem_set]
    split
    · rename_i g; subst g; simp
    · rfl
theorem breaks_f0 {l m : List S35} (ks : List Int) (h : l.map (fun x : S35 => x.f0) = m.map (fun x : S35 => x.f0)) : breaksL l ks = breaksL m ks := by
  have e : ∀ l : List S35, breaksL l ks = (l.map fun x : S35 => x.f0).flatMap fun X => ks.map fun k => wrap64 (k + X) := by
    intro l
    induction l with
    | nil => rfl
    | cons x r ih =>
      simp only [breaksL, List.flatMap_cons, List.map_cons] at *
      rw [ih]
      rfl
  rw [e, e, h]
theorem effS_set {line : Int → Int} {s : Int} (hline : ∀ a, 0 ≤ line a) {P : Int} : ∀ {l : List S35} {k : Nat} (hk : k < l.length), l[k].f1 ≤ P → effS line s l ≤ effS line s (l.set k ⟨l[k].f0, P⟩)
  | x :: r, 0, hk, h => by
    simp only [List.getElem_cons_zero, List.set_cons_zero, effS] at *
    have := Int.mul_le_mul_of_nonneg_right h (hline (s - x.f0))
    omega
  | x :: r, k + 1, hk, h => by
    have := effS_set (line := line) (s := s) hline (l := r) (k := k) (by simpa using hk) (by simpa using h)
    simp only [List.getElem_cons_succ, List.set_cons_succ, effS]
    omega
end Go.Proofs.Ytiklpefckadgdaa.P
namespace Go.Proofs.Ytiklpefckadgdaa.P
open Go.RowKit Go.Proofs.YtiklpefckadgdaaW.PrintWords Go.Proofs.YtiklpefckadgdaaW.PrintLast Go.Proofs.YtiklpefckadgdaaW.PrintMore
theorem place_eq (s : Int) : bridge_validPlace.f s = some (inR s (-4194304) 4194304) := by
  unfold bridge_validPlace.f; rw [between_eq]; rfl
theorem Moment_eq (l m s : List Int) (a b c : Int) (t : List S35) (k x p : Int) : bridge_Moment.f l m s a b c t k x p =
    some (if errS l m s a b c t k = 0 then (if inR x 0 (rd l k) = true then (if inR p (-4194304) 4194304 = true then (effW (momentW (startW l k.toNat) (rd l k) x) t p, 0) else (0, 3)) else (0, 3)) else (0, errS l m s a b c t k)) := by
  unfold bridge_Moment.f
  rw [span_lim, Option.bind_some]
  by_cases h : errS l m s a b c t k = 0
  · rw [if_pos h, if_pos h]
    obtain ⟨h1, h2, h3, h4⟩ := errS_zero h
    have g1 := errB_zero h1
    have g2 := errT_zero h2
    rw [if_pos ⟨h3, h4, by omega, by omega⟩, between_eq, Option.bind_some, place_eq, Option.bind_some]
    split
    · split <;> rfl
    · rfl
  · rw [if_neg h, if_neg h]
theorem End_eq (l m s : List Int) (a b c : Int) (t : List S35) (k : Int) (right : Bool) (p : Int) : bridge_End.f l m s a b c t k right p =
    some (if errS l m s a b c t k = 0 then (if inR p (-4194304) 4194304 = true then (effW (endW (startW l k.toNat) (rd l k) right) t p, 0) else (0, 3)) else (0, errS l m s a b c t k)) := by
  unfold bridge_End.f
  rw [span_lim, Option.bind_some]
  by_cases h : errS l m s a b c t k = 0
  · rw [if_pos h, if_pos h]
    obtain ⟨h1, h2, h3, h4⟩ := errS_zero h
    have g1 := errB_zero h1
    have g2 := errT_zero h2
    rw [if_pos ⟨h3, h4, by omega, by omega⟩, place_eq, Option.bind_some]
    split <;> rfl
  · rw [if_neg h, if_neg h]
theorem none_ok : errT [⟨0, 0⟩] = 0 := by decide
theorem errS_none {l m s : List Int} {a b c : Int} {t : List S35} {k : Int} (h : errS l m s a b c t k = 0) : errS l m s a b c [⟨0, 0⟩] k = 0 := by
  obtain ⟨h1, h2, h3, h4⟩ := errS_zero h
  unfold errS errBT
  rw [if_neg (show ¬ (if errB l m s a b c ≠ 0 then errB l m s a b c else errT [⟨0, 0⟩]) ≠ 0 by rw [if_neg (fun g => g h1)]; exact fun g => g none_ok), if_neg (by omega)]
theorem Line_eq {l m s : List Int} {a b c : Int} {t : List S35} {k x : Int} (h : errS l m s a b c t k = 0) (hx : inR x 0 (rd l k) = true) (p : Int) : bridge_Line.f l m s a b c k x p =
    some (if inR p (-4194304) 4194304 = true then (momentW (startW l k.toNat) (rd l k) x (wrap64 (startW l k.toNat + p)), 0) else (0, 3)) := by
  unfold bridge_Line.f
  rw [span_lim, Option.bind_some, if_pos (errS_none h)]
  obtain ⟨h1, h2, h3, h4⟩ := errS_zero h
  have g1 := errB_zero h1
  rw [if_pos ⟨h3, h4, by omega⟩, between_eq, Option.bind_some, if_pos hx, place_eq, Option.bind_some]
  split <;> rfl
theorem sumW_bd : ∀ (l : List Int) (n : Int), (∀ x ∈ l, 0 ≤ x ∧ x ≤ 131072) → 0 ≤ n → n + l.length * 131072 ≤ 1000000000 → l.foldl (fun n x => wrap64 (n + x)) n = n + l.sum ∧ 0 ≤ l.sum ∧ l.sum ≤ l.length * 131072
  | [], n, _, _, _ => by simp
  | x :: r, n, h, h0, h1 => by
    have hx := h x (List.mem_cons_self ..)
    simp only [List.length_cons] at h1
    obtain ⟨e1, e2, e3⟩ := sumW_bd r (n + x) (fun y hy => h y (List.mem_cons_of_mem _ hy)) (by omega) (by omega)
    rw [List.foldl_cons, w64 (by omega) (by omega), e1, List.sum_cons, List.length_cons]
    omega
theorem startW_bd {l m s : List Int} {a b c : Int} (h : errB l m s a b c = 0) (k : Nat) : 0 ≤ startW l k ∧ startW l k ≤ 786432 := by
  have g := errB_zero h
  have hall : ∀ x ∈ l.take k, 0 ≤ x ∧ x ≤ 131072 := by
    intro x hx
    obtain ⟨i, hi, rfl⟩ := List.getElem_of_mem (List.mem_of_mem_take hx)
    have := spansOk_get g.2.2.2.2.2.2.2 i hi
    omega
  have hlen : (l.take k).length ≤ 6 := by simp; omega
  obtain ⟨e1, e2, e3⟩ := sumW_bd (l.take k) 0 hall (by omega) (by omega)
  unfold startW sumW
  rw [e1]
  omega
def onS (L s : Int) : List S35 → Int
  | [] => 0
  | x :: r => (if 0 ≤ s - x.f0 ∧ s - x.f0 ≤ L then x.f1 else 0) + onS L s r
theorem ends_sum (L s : Int) : ∀ l : List S35, effS (endI L false) s l + effS (endI L true) s l = onS L s l * L
  | [] => by simp [effS, onS]
  | x :: r => by
    have ih := ends_sum L s r
    simp only [effS, onS]
    by_cases h : 0 ≤ s - x.f0 ∧ s - x.f0 ≤ L
    · rw [if_pos h, Int.add_mul]
      have e1 : endI L false (s - x.f0) = L - (s - x.f0) := by unfold endI; rw [if_neg (by omega), if_neg (by decide)]
      have e2 : endI L true (s - x.f0) = s - x.f0 := by unfold endI; rw [if_neg (by omega), if_pos rfl]
      rw [e1, e2, Int.mul_sub]
      omega
    · rw [if_neg h, Int.zero_add]
      have e : ∀ b, endI L b (s - x.f0) = 0 := fun b => by unfold endI; rw [if_pos (by omega)]
      rw [e, e, Int.mul_zero, Int.zero_add, Int.zero_add]
      exact ih
theorem onS_bd (L s : Int) : ∀ l : List S35, (∀ x ∈ l, OkForce x) → 0 ≤ onS L s l ∧ onS L s l ≤ l.length * 1048576
  | [], _ => by simp [onS]
  | x :: r, h => by
    have ih := onS_bd L s r (fun y hy => h y (List.mem_cons_of_mem _ hy))
    have hx : 0 ≤ x.f1 ∧ x.f1 ≤ 1048576 := (h x (List.mem_cons_self ..)).2
    simp only [onS, List.length_cons]
    split <;> omega
theorem effS_shift (f : Int → Int) (o s : Int) : ∀ l : List S35, effS (fun a => f (a - o)) s l = effS f (s - o) l
  | [] => rfl
  | x :: r => by
    simp only [effS]
    rw [effS_shift f o s r, show s - x.f0 - o = s - o - x.f0 by omega]
theorem more_worst {o L x a b : Int} {t : List S35} {q : Nat} {P : Int} (ho : 0 ≤ o ∧ o ≤ 1048576) (hL : 0 ≤ L ∧ L ≤ 131072) (hx : 0 ≤ x ∧ x ≤ L) (h : errT t = 0) (hq : q < t.length) (hP : 0 ≤ P ∧ P ≤ 1048576) (hle : t[q].f1 ≤ P) :
    (worstW (momentW o L x) t [o, wrap64 (o + x), wrap64 (o + L)] a b).f0 ≤ (worstW (momentW o L x) (t.set q ⟨t[q].f0, P⟩) [o, wrap64 (o + x), wrap64 (o + L)] a b).f0 := by
  have hs := set_ok (k := q) h hq hP
  have hne : t ≠ [] := by rintro rfl; simp at hq
  have hne2 : t.set q ⟨t[q].f0, P⟩ ≠ [] := by
    intro e
    have := congrArg List.length e
    simp at this
    subst this
    simp at hq
  refine worst_le (breaks_ne hne) (breaks_ne hne2) fun s hs1 => ?_
  have e := breaks_f0 (l := t.set q ⟨t[q].f0, P⟩) (m := t) [o, wrap64 (o + x), wrap64 (o + L)] (f0_set hq)
  refine ⟨s, by rw [e]; exact hs1, ?_⟩
  obtain ⟨y, hy, k, hk, rfl⟩ := mem_breaks.1 hs1
  have hy1 := (okForces h y hy).1
  have hk1 : 0 ≤ k ∧ k ≤ 1179648 := by
    rw [w64 (x := o + x) (by omega) (by omega), w64 (x := o + L) (by omega) (by omega)] at hk
    simp only [List.mem_cons, List.not_mem_nil, or_false] at hk
    rcases hk with rfl | rfl | rfl <;> omega
  rw [w64 (x := k + y.f0) (by omega) (by omega)]
  rw [effW_moment ho hL hx (by omega) h, effW_moment ho hL hx (by omega) hs]
  exact effS_set (fun a => (momentI_bd hL hx _).1) hq hle
end Go.Proofs.Ytiklpefckadgdaa.P
namespace Go.Proofs.Ytiklpefckadgdaa.P
open Go.RowKit Go.Proofs.YtiklpefckadgdaaW.PrintWords Go.Proofs.YtiklpefckadgdaaW.PrintLast Go.Proofs.YtiklpefckadgdaaW.PrintMore
theorem great_eq (sp mo sh : List Int) (a b c : Int) (t : List S35) : ∃ g, goosenecklaw06_great.f sp mo sh a b c t = some g := by
  unfold goosenecklaw06_great.f
  split
  · exact ⟨_, rfl⟩
  · split
    · exact ⟨_, rfl⟩
    · split
      · exact ⟨_, rfl⟩
      · exact ⟨_, rfl⟩
end Go.Proofs.Ytiklpefckadgdaa.P
namespace Go.Proofs.Ytiklpefckadgdaa.P
open Go.RowKit Go.Proofs.YtiklpefckadgdaaW.PrintWords Go.Proofs.YtiklpefckadgdaaW.PrintLast Go.Proofs.YtiklpefckadgdaaW.PrintMore
theorem knownA : Ev (fun k => (goosenecklaw06_known.f k).bind fun t => some t) true := Ev.bind known_ev (Ev.now _)
theorem adds_j5 {sp mo sh : List Int} {a b c x ax : Int} {t : List S35} {q : Nat} (he : errS sp mo sh a b c t (q : Int) = 0) (hx : inR x 0 (rd sp (q : Int)) = true) (hax : 0 ≤ ax ∧ ax ≤ 255) :
    Ev (fun k => goosenecklaw06_BridgeAdds.j5 k t (q : Int) x ax false sp mo sh a b c) true := by
  obtain ⟨h1, h2, h3, h4⟩ := errS_zero he
  have g1 := errB_zero h1
  have g2 := errT_zero h2
  have hsp : rd sp (q : Int) = sp[q] := rd_get sp q (by omega)
  have hL := spansOk_get g1.2.2.2.2.2.2.2 q (by omega)
  have hst := startW_bd h1 q
  have gx := inR_iff.1 hx
  have hk0 : 0 ≤ Int.tmod ax (t.length : Int) := Int.tmod_nonneg _ hax.1
  have hk1 : Int.tmod ax (t.length : Int) < (t.length : Int) := Int.tmod_lt_of_pos _ (by omega)
  obtain ⟨i, hi⟩ : ∃ i : Nat, Int.tmod ax (t.length : Int) = (i : Int) := ⟨(Int.tmod ax (t.length : Int)).toNat, by omega⟩
  have hil : i < t.length := by omega
  have hf := (okForces h2 _ (List.getElem_mem hil)).2
  have hmn : (0 ≤ mn 1048576 (t[i].f1 + ax + 1) ∧ mn 1048576 (t[i].f1 + ax + 1) ≤ 1048576) ∧ t[i].f1 ≤ mn 1048576 (t[i].f1 + ax + 1) := by unfold mn; split <;> omega
  have hs2 := set_ok (k := i) h2 hil hmn.1
  have he2 : errS sp mo sh a b c (t.set i ⟨t[i].f0, mn 1048576 (t[i].f1 + ax + 1)⟩) (q : Int) = 0 := by
    unfold errS errBT
    rw [if_neg (show ¬ (if errB sp mo sh a b c ≠ 0 then errB sp mo sh a b c else errT (t.set i ⟨t[i].f0, mn 1048576 (t[i].f1 + ax + 1)⟩)) ≠ 0 by rw [if_neg (fun g => g h1)]; exact fun g => g hs2), if_neg (by omega)]
  have e1 := WorstMoment_eq sp mo sh a b c t (q : Int) x
  have e2 := WorstMoment_eq sp mo sh a b c (t.set i ⟨t[i].f0, mn 1048576 (t[i].f1 + ax + 1)⟩) (q : Int) x
  rw [if_pos he, if_pos hx] at e1
  rw [if_pos he2, if_pos hx] at e2
  have hm : (momentWorst sp t (q : Int).toNat (rd sp (q : Int)) x).f0 ≤ (momentWorst sp (t.set i ⟨t[i].f0, mn 1048576 (t[i].f1 + ax + 1)⟩) (q : Int).toNat (rd sp (q : Int)) x).f0 := by
    rw [hsp] at gx ⊢
    unfold momentWorst
    exact more_worst (by simp only [Int.toNat_natCast]; omega) (by omega) (by omega) h2 hil hmn.1 hmn.2
  refine Ev.step (f := fun k => (goosenecklaw06_known.f k).bind fun t => some t) (fun k => ?_) knownA
  rw [goosenecklaw06_BridgeAdds.j5, if_neg (by decide)]
  simp only [Option.bind_some, List.nil_append, List.length_nil, Nat.zero_add]
  rw [if_pos (by omega), if_neg (by omega), w64 (x := ax) (by omega) (by omega), hi, if_pos (by omega), if_pos (by omega), rd35_get t i hil, w64 (x := t[i].f1 + ax) (by omega) (by omega), w64 (x := t[i].f1 + ax + 1) (by omega) (by omega), Int.toNat_natCast, e1, e2]
  simp only [Option.bind_some, effT, if_true]
  rw [if_pos hm]
theorem l1_next {sp mo sh : List Int} {a b c x s ax v l r st sum on S O j one e : Int} {t : List S35} {q i : Nat} (k : Nat) (hi : i < t.length) (hq : (q : Int) < (sp.length : Int)) (p : Int)
    (hp : wrap64 (wrap64 (s - t[i].f0) - st) = p) (hl : bridge_Line.f sp mo sh a b c (q : Int) x p = some (one, e)) (hS : e = 0 → wrap64 (sum + wrap64 (t[i].f1 * one)) = S) (hS' : e ≠ 0 → sum = S)
    (hO : p ≥ 0 ∧ p ≤ rd sp (q : Int) → wrap64 (on + t[i].f1) = O) (hO' : ¬ (p ≥ 0 ∧ p ≤ rd sp (q : Int)) → on = O) (hj : wrap64 ((i : Int) + 1) = j) :
    goosenecklaw06_BridgeAdds.l1 (k + 1) t (q : Int) x s ax v l r st sum on (i : Int) sp mo sh a b c = goosenecklaw06_BridgeAdds.l1 k t (q : Int) x s ax v l r st S O j sp mo sh a b c := by
  have h1 : (i : Int) < (t.length : Int) := Int.ofNat_lt.2 hi
  have h2 : (0 : Int) ≤ (i : Int) := Int.natCast_nonneg i
  have h3 : (0 : Int) ≤ (q : Int) := Int.natCast_nonneg q
  rw [goosenecklaw06_BridgeAdds.l1, if_pos h1, if_pos h2, rd35_get t i hi, hp, hl, Option.bind_some, hj]
  by_cases he : e = 0
  · rw [if_pos he, hS he]
    by_cases c1 : p ≥ 0
    · rw [if_pos c1, if_pos h3, if_pos hq]
      by_cases c2 : p ≤ rd sp (q : Int)
      · rw [if_pos c2, hO ⟨c1, c2⟩]
      · rw [if_neg c2, hO' (fun g => c2 g.2)]
    · rw [if_neg c1, hO' (fun g => c1 g.1)]
  · rw [if_neg he, hS' he]
    by_cases c1 : p ≥ 0
    · rw [if_pos c1, if_pos h3, if_pos hq]
      by_cases c2 : p ≤ rd sp (q : Int)
      · rw [if_pos c2, hO ⟨c1, c2⟩]
      · rw [if_neg c2, hO' (fun g => c2 g.2)]
    · rw [if_neg c1, hO' (fun g => c1 g.1)]
theorem l1_last {sp mo sh : List Int} {a b c x s ax v l r st sum on : Int} {t : List S35} {q i : Nat} (k : Nat) (hi : ¬ i < t.length) (hq : (q : Int) < (sp.length : Int)) (hv : v = sum) (hlr : wrap64 (l + r) = wrap64 (on * rd sp (q : Int))) :
    goosenecklaw06_BridgeAdds.l1 (k + 1) t (q : Int) x s ax v l r st sum on (i : Int) sp mo sh a b c = goosenecklaw06_BridgeAdds.j5 k t (q : Int) x ax false sp mo sh a b c := by
  have h1 : ¬ (i : Int) < (t.length : Int) := fun g => hi (Int.ofNat_lt.1 g)
  have h3 : (0 : Int) ≤ (q : Int) := Int.natCast_nonneg q
  rw [goosenecklaw06_BridgeAdds.l1, if_neg h1, if_pos hv, if_pos h3, if_pos hq, hlr]
  simp
theorem wrap_sum {sum M R v : Int} (h : sum + (M + R) = v) (h0 : 0 ≤ sum) (h1 : 0 ≤ M) (h2 : 0 ≤ R) (h3 : v ≤ 2305843009213693952) : wrap64 (sum + wrap64 M) = sum + M := by
  rw [w64 (x := M) (by omega) (by omega), w64 (by omega) (by omega)]
theorem wrap_on {on M Z R v : Int} (h : on + (Z + R) = v) (hz : Z = M) (h0 : 0 ≤ on) (h1 : 0 ≤ M) (h2 : 0 ≤ R) (h3 : v ≤ 2305843009213693952) : wrap64 (on + M) = on + Z := by
  rw [hz] at h ⊢; exact w64 (by omega) (by omega)
theorem adds_l1 {sp mo sh : List Int} {a b c x s ax v l r st : Int} {t : List S35} {q : Nat} (he : errS sp mo sh a b c t (q : Int) = 0) (hx : inR x 0 (rd sp (q : Int)) = true) (hax : 0 ≤ ax ∧ ax ≤ 255) (hs : -4194304 ≤ s ∧ s ≤ 4194304) (hst : st = startW sp q)
    (hv : v = effS (momentI (rd sp (q : Int)) x) (s - st) t) (hlr : l + r = onS (rd sp (q : Int)) (s - st) t * rd sp (q : Int)) (d : Nat) : ∀ (i : Nat) (sum on : Int), t.length - i = d → i ≤ t.length → sum + effS (momentI (rd sp (q : Int)) x) (s - st) (t.drop i) = v → on + onS (rd sp (q : Int)) (s - st) (t.drop i) = onS (rd sp (q : Int)) (s - st) t → 0 ≤ sum → 0 ≤ on →
    Ev (fun k => goosenecklaw06_BridgeAdds.l1 k t (q : Int) x s ax v l r st sum on (i : Int) sp mo sh a b c) true := by
  obtain ⟨h1, h2, h3, h4⟩ := errS_zero he
  have g1 := errB_zero h1
  have g2 := errT_zero h2
  have g3 : t.length ≤ 64 := by have := g2.2.1; omega
  have hstb : 0 ≤ st ∧ st ≤ 786432 := by rw [hst]; exact startW_bd h1 q
  have hL : 0 ≤ rd sp (q : Int) ∧ rd sp (q : Int) ≤ 131072 := by
    rw [rd_get sp q (by omega)]
    have := spansOk_get g1.2.2.2.2.2.2.2 q (by omega)
    omega
  have gx : 0 ≤ x ∧ x ≤ rd sp (q : Int) := inR_iff.1 hx
  have hf := okForces h2
  have hline := fun p => Line_eq he hx p
  generalize hLe : rd sp (q : Int) = L at *
  have hvb : v ≤ 2305843009213693952 := by
    have := (effS_bd (s := s - st) (fun y => momentI_bd (l := L) (x := x) hL gx y) hf).2
    rw [hv]; generalize effS _ _ _ = E at *; clear hline hLe he h1 h2 g1 g2; omega
  have hob : onS L (s - st) t ≤ 2305843009213693952 := by
    have := (onS_bd L (s - st) t hf).2
    generalize onS _ _ _ = E at *; clear hline hLe he h1 h2 g1 g2; omega
  induction d with
  | zero =>
    intro i sum on hd hi hsum hon hs0 ho0
    have hie : i = t.length := by omega
    subst hie
    rw [List.drop_length] at hsum hon
    simp only [effS, onS, Int.add_zero] at hsum hon
    refine Ev.step (fun k => l1_last k (Nat.lt_irrefl _) h4 hsum.symm ?_) (adds_j5 he (hLe.symm ▸ hx) hax)
    rw [hLe, hlr, hon]
  | succ d ih =>
    intro i sum on hd hi hsum hon hs0 ho0
    have hil : i < t.length := by omega
    rw [List.drop_eq_getElem_cons hil] at hsum hon
    simp only [effS, onS] at hsum hon
    have hf0 := (hf _ (List.getElem_mem hil)).1
    have hf1 := (hf _ (List.getElem_mem hil)).2
    have hm := momentI_bd (l := L) (x := x) hL gx (s - st - t[i].f0)
    have m0 : 0 ≤ t[i].f1 * momentI L x (s - st - t[i].f0) := Int.mul_nonneg hf1.1 hm.1
    have hr1 : 0 ≤ effS (momentI L x) (s - st) (t.drop (i + 1)) := (effS_bd (s := s - st) (fun y => momentI_bd (l := L) (x := x) hL gx y) (l := t.drop (i + 1)) (fun y hy => hf y (List.mem_of_mem_drop hy))).1
    have hr2 : 0 ≤ onS L (s - st) (t.drop (i + 1)) := (onS_bd L (s - st) (t.drop (i + 1)) (fun y hy => hf y (List.mem_of_mem_drop hy))).1
    have hz0 : 0 ≤ (if 0 ≤ s - st - t[i].f0 ∧ s - st - t[i].f0 ≤ L then t[i].f1 else 0) := by split; exact hf1.1; exact Int.le_refl _
    have hrec := ih (i + 1) (sum + t[i].f1 * momentI L x (s - st - t[i].f0)) (on + (if 0 ≤ s - st - t[i].f0 ∧ s - st - t[i].f0 ≤ L then t[i].f1 else 0)) (by clear hline hLe he h1 h2 g1 g2 hsum hon ih; omega) hil (by rw [Int.add_assoc]; exact hsum) (by rw [Int.add_assoc]; exact hon) (Int.add_nonneg hs0 m0) (Int.add_nonneg ho0 hz0)
    have hp : wrap64 (wrap64 (s - t[i].f0) - st) = s - st - t[i].f0 := by
      clear hline hLe he h1 h2 g1 g2 hsum hon ih hrec hr1 hr2 m0 hm hvb hob
      rw [w64 (x := s - t[i].f0) (by omega) (by omega), w64 (by omega) (by omega)]; omega
    have hone : ∃ one e, bridge_Line.f sp mo sh a b c (q : Int) x (s - st - t[i].f0) = some (one, e) ∧ ((e = 0 ∧ one = momentI L x (s - st - t[i].f0)) ∨ (e ≠ 0 ∧ momentI L x (s - st - t[i].f0) = 0)) := by
      have hl := hline (s - st - t[i].f0)
      by_cases hpp : inR (s - st - t[i].f0) (-4194304) 4194304 = true
      · rw [if_pos hpp] at hl
        refine ⟨_, _, hl, .inl ⟨rfl, ?_⟩⟩
        rw [Int.toNat_natCast, ← hst]
        clear hline hl he h1 h2 g1 g2 hsum hon ih hrec hr1 hr2 m0 hm hvb hob hp hLe
        rw [w64 (x := st + (s - st - t[i].f0)) (by omega) (by omega), momentW_eq (by omega) hL gx]
        congr 1; omega
      · rw [if_neg hpp] at hl
        refine ⟨_, _, hl, .inr ⟨by decide, ?_⟩⟩
        rw [inR_iff] at hpp
        clear hline hl he h1 h2 g1 g2 hsum hon ih hrec hr1 hr2 m0 hm hvb hob hp hLe
        unfold momentI
        rw [if_pos (by omega)]
    obtain ⟨one, e, hl1, hl2⟩ := hone
    refine Ev.step (fun k => l1_next k hil h4 (s - st - t[i].f0) hp hl1 ?_ ?_ ?_ ?_ ?_) hrec
    · intro e0
      rcases hl2 with ⟨_, h⟩ | h
      · rw [h]; exact wrap_sum hsum hs0 m0 hr1 hvb
      · exact absurd e0 h.1
    · intro e0
      rcases hl2 with h | ⟨_, h⟩
      · exact absurd h.1 e0
      · rw [h, Int.mul_zero, Int.add_zero]
    · intro g
      rw [hLe] at g
      exact wrap_on hon (if_pos ⟨g.1, g.2⟩) ho0 hf1.1 hr2 hob
    · intro g
      rw [hLe] at g
      rw [if_neg (fun u => g ⟨u.1, u.2⟩), Int.add_zero]
    · clear hline hLe he h1 h2 g1 g2 hsum hon ih hrec hr1 hr2 m0 hm hvb hob hp hl1 hl2
      rw [w64 (by omega) (by omega)]; rfl
theorem startW_succ (l : List Int) (i : Nat) (h : i < l.length) : startW l (i + 1) = wrap64 (startW l i + l[i]) := by
  unfold startW sumW
  rw [List.take_succ_eq_append_getElem h, List.foldl_append]
  rfl
theorem adds_j3 {sp mo sh : List Int} {a b c x s ax v l r : Int} {t : List S35} {q : Nat} (he : errS sp mo sh a b c t (q : Int) = 0) (hx : inR x 0 (rd sp (q : Int)) = true) (hax : 0 ≤ ax ∧ ax ≤ 255) (hs : -4194304 ≤ s ∧ s ≤ 4194304)
    (hv : v = effS (momentI (rd sp (q : Int)) x) (s - startW sp q) t) (hlr : l + r = onS (rd sp (q : Int)) (s - startW sp q) t * rd sp (q : Int)) :
    Ev (fun k => goosenecklaw06_BridgeAdds.j3 k t (q : Int) x s ax v l r (startW sp q) sp mo sh a b c) true := by
  have h := adds_l1 he hx hax hs rfl hv hlr t.length 0 0 0 (Nat.sub_zero _) (Nat.zero_le _) (by rw [List.drop_zero, Int.zero_add, hv]) (by rw [List.drop_zero, Int.zero_add]) (Int.le_refl _) (Int.le_refl _)
  exact Ev.step (fun k => by rw [goosenecklaw06_BridgeAdds.j3]; rfl) h
theorem nat_facts {i q n : Nat} (h : i < q) (h2 : (q : Int) < (n : Int)) (h3 : n ≤ 10) : (i : Int) < (q : Int) ∧ (i : Int) < (n : Int) ∧ wrap64 ((i : Int) + 1) = ((i + 1 : Nat) : Int) ∧ i < n := by
  refine ⟨by omega, by omega, ?_, by omega⟩
  rw [w64 (by omega) (by omega)]; rfl
theorem adds_l0 {sp mo sh : List Int} {a b c x s ax v l r : Int} {t : List S35} {q : Nat} (he : errS sp mo sh a b c t (q : Int) = 0) (hx : inR x 0 (rd sp (q : Int)) = true) (hax : 0 ≤ ax ∧ ax ≤ 255) (hs : -4194304 ≤ s ∧ s ≤ 4194304)
    (hv : v = effS (momentI (rd sp (q : Int)) x) (s - startW sp q) t) (hlr : l + r = onS (rd sp (q : Int)) (s - startW sp q) t * rd sp (q : Int)) (d : Nat) : ∀ i : Nat, q - i = d → i ≤ q →
    Ev (fun k => goosenecklaw06_BridgeAdds.l0 k t (q : Int) x s ax v l r (startW sp i) (i : Int) sp mo sh a b c) true := by
  have h4 := (errS_zero he).2.2.2
  have h5 := (errB_zero (errS_zero he).1).2.1
  induction d with
  | zero =>
    intro i hd hi
    have e : i = q := by omega
    subst e
    refine Ev.step (fun k => ?_) (adds_j3 he hx hax hs hv hlr)
    rw [goosenecklaw06_BridgeAdds.l0, if_neg (Int.lt_irrefl _)]
  | succ d ih =>
    intro i hd hi
    have hrec := ih (i + 1) (by rw [Nat.sub_succ, hd]; rfl) (Nat.lt_of_sub_eq_succ hd)
    obtain ⟨g1, g2, g3, g4⟩ := nat_facts (Nat.lt_of_sub_eq_succ hd) h4 (Nat.le_trans h5 (by decide))
    refine Ev.step (fun k => ?_) hrec
    rw [goosenecklaw06_BridgeAdds.l0, if_pos g1, if_pos g2, if_pos (Int.natCast_nonneg i), rd_get sp i g4, g3, startW_succ sp i g4]
theorem adds_j0 {sp mo sh : List Int} {a b c x s ax v l r : Int} {t : List S35} {q : Nat} (he : errS sp mo sh a b c t (q : Int) = 0) (hx : inR x 0 (rd sp (q : Int)) = true) (hax : 0 ≤ ax ∧ ax ≤ 255) (hs : -4194304 ≤ s ∧ s ≤ 4194304)
    (hv : v = effS (momentI (rd sp (q : Int)) x) (s - startW sp q) t) (hlr : l + r = onS (rd sp (q : Int)) (s - startW sp q) t * rd sp (q : Int)) :
    Ev (fun k => goosenecklaw06_BridgeAdds.j0 k t (q : Int) x s ax v l r false sp mo sh a b c) true := by
  have h := adds_l0 he hx hax hs hv hlr q 0 (Nat.sub_zero _) (Nat.zero_le _)
  have e0 : startW sp 0 = 0 := rfl
  rw [e0] at h
  have hj1 : Ev (fun k => goosenecklaw06_BridgeAdds.j1 k t (q : Int) x s ax v l r false sp mo sh a b c) true :=
    Ev.step (fun k => by rw [goosenecklaw06_BridgeAdds.j1, if_neg (by decide)]; rfl) h
  refine Ev.step (fun k => ?_) hj1
  have h2 := errT_zero (errS_zero he).2.1
  have h4 := (errS_zero he).2.2.2
  have e1 : ((t.length : Int) == 0) = false := by simp; rintro rfl; simp at h2
  rw [goosenecklaw06_BridgeAdds.j0, if_neg (by decide), if_neg (by omega), if_neg (by omega), e1]
theorem adds_out {sp mo sh : List Int} {a b c q x s ax l r : Int} {t : List S35} : Ev (fun k => goosenecklaw06_BridgeAdds.j0 k t q x s ax 0 l r true sp mo sh a b c) true := by
  refine Ev.step (fun k => ?_) knownA
  rw [goosenecklaw06_BridgeAdds.j0, if_pos rfl, if_pos rfl]
theorem BridgeAdds_pure : BridgeAdds_Pure := by
  intro bb t kk x s ax _ _ wk wx ws wax
  obtain ⟨sp, mo, sh, a, b, c⟩ := bb
  refine Ev.rounds (g := fun k => goosenecklaw06_BridgeAdds.f k sp mo sh a b c t kk x s ax) ?_
  unfold goosenecklaw06_BridgeAdds.f
  obtain ⟨g, hg⟩ := great_eq sp mo sh a b c t
  simp only [hg, Option.bind_some]
  by_cases h1 : g = true
  · simp only [if_pos h1]; exact knownA
  · simp only [if_neg h1, Moment_eq, End_eq, Option.bind_some]
    by_cases he : errS sp mo sh a b c t kk = 0
    · simp only [if_pos he]
      by_cases hx : inR x 0 (rd sp kk) = true
      · simp only [if_pos hx]
        by_cases hs : inR s (-4194304) 4194304 = true
        · simp only [if_pos hs, if_true]
          obtain ⟨g1, g2, g3, g4⟩ := errS_zero he
          obtain ⟨q, rfl⟩ : ∃ q : Nat, kk = (q : Int) := ⟨kk.toNat, by omega⟩
          have gs := inR_iff.1 hs
          have hst := startW_bd g1 q
          have hL : 0 ≤ rd sp (q : Int) ∧ rd sp (q : Int) ≤ 131072 := by
            rw [rd_get sp q (by omega)]
            have := spansOk_get (errB_zero g1).2.2.2.2.2.2.2 q (by omega)
            omega
          have gx := inR_iff.1 hx
          have ho : 0 ≤ startW sp q ∧ startW sp q ≤ 1048576 := by omega
          have hsb : -1099511627776 ≤ s ∧ s ≤ 1099511627776 := by omega
          simp only [Int.toNat_natCast]
          rw [effW_moment ho hL gx hsb g2, effW_end ho hL hsb g2, effW_end ho hL hsb g2, effS_shift, effS_shift (endI _ false), effS_shift (endI _ true)]
          exact adds_j0 he hx (wf_u8 wax) gs rfl (ends_sum _ _ t)
        · simp only [if_neg hs, if_true, if_neg (show ¬ (3 : Int) = 0 by decide)]
          exact adds_out
      · simp only [if_neg hx]
        by_cases hs : inR s (-4194304) 4194304 = true
        · simp only [if_pos hs, if_true, if_neg (show ¬ (3 : Int) = 0 by decide)]
          exact adds_out
        · simp only [if_neg hs, if_true, if_neg (show ¬ (3 : Int) = 0 by decide)]
          exact adds_out
    · simp only [if_neg he]
      exact adds_out
end Go.Proofs.Ytiklpefckadgdaa.P
namespace Go.Proofs.Ytiklpefckadgdaa.bridgeAdds
open Go.ChangeShapes Go.WideShapes Go.ChangeAt Go.RowKit Go.Proofs.Ytiklpefckadgdaa.P
open Go.Proofs.YtiklpefckadgdaaW.PrintWords Go.Proofs.YtiklpefckadgdaaW.PrintLast Go.Proofs.YtiklpefckadgdaaW.PrintMore
open Go.ChangeMaps (open_string shut_string)
set_option linter.unusedVariables false
theorem own : ownKnob Try.prog.godebug = none := by kernel_rfl
theorem laidOut : laidOutB Try.prog = true := by kernel_rfl
set_option maxRecDepth 100000 in
theorem lifted (os : Os) (started : os.Started) (H : Type) (enc : TypeId × Value → H) :
    ReturnsInHanded {} Try.checked os 4 .any (Rows.bridgeAddsSpec.pre6 enc Try.prog Try.f4 Rows.bridgeAddsRow.domain false) (Rows.bridgeAddsSpec.post enc Try.prog Try.f4 false true false false) := by
  refine returnsInHanded_of_change_sized (C := Try.checked) own started (by kernel_rfl) Try.func4
    (ChangeSpec.witness6 (enc := enc) (C := Try.checked) false ⟨#[], #[.agg #[.slice none 0 0, .slice none 0 0, .slice none 0 0, .int .i64 0, .int .i64 0, .int .i64 0], .slice none 0 0, .int .i64 0, .int .i64 0, .int .i64 0, .int .u8 0], []⟩ 8 (by kernel_rfl) (by kernel_rfl) (by kernel_rfl) (by kernel_rfl)) ?_
  intro W base args ds gs before hval0 hW hcnd hsz0 _
  have hval : ∀ (j : Nat) t v, Try.f4.params[j]? = some t → args[j]? = some v → Value.okWide Try.prog W .any base t v := hval0
  have hW' := hW
  obtain ⟨p, q, hA0, hV, rfl, hfz, hnd⟩ := hW
  have hA : DataW.TrodAll enc Try.prog W 0 (fun _ => true) true Try.f4.params.toList args.toList ds p := hA0
  rw [Try.params4] at hA hval
  obtain ⟨v0, vs0, d0, ds0, p0, q0, hargs, rfl, rfl, h0, r0⟩ := trodAll_cons hA
  obtain ⟨v1, vs1, d1, ds1, p1, q1, rfl, rfl, rfl, h1, r1⟩ := trodAll_cons r0
  obtain ⟨v2, vs2, d2, ds2, p2, q2, rfl, rfl, rfl, h2, r2⟩ := trodAll_cons r1
  obtain ⟨v3, vs3, d3, ds3, p3, q3, rfl, rfl, rfl, h3, r3⟩ := trodAll_cons r2
  obtain ⟨v4, vs4, d4, ds4, p4, q4, rfl, rfl, rfl, h4, r4⟩ := trodAll_cons r3
  obtain ⟨v5, vs5, d5, ds5, p5, q5, rfl, rfl, rfl, h5, r5⟩ := trodAll_cons r4
  obtain ⟨rfl, rfl, rfl⟩ := trodAll_nil r5
  obtain rfl : args = #[v0, v1, v2, v3, v4, v5] := by cases args; simp_all
  obtain ⟨rfl, rfl⟩ := trodVars_none hV
  have k0 := h0
  have lt0 : ∀ x ∈ p0, x.block < W.heap.size := by obtain ⟨m, hm⟩ := k0; exact DataW.trod_lt m _ _ _ hm
  obtain ⟨cs0, rfl, hz0⟩ := okWide_struct Try.underlying24 (hval 0 24 v0 rfl rfl)
  obtain ⟨f0, hf0⟩ := h0
  obtain ⟨x0, hK0, w0⟩ := opens24 H enc W _ _ _ _ _ _ hf0
  obtain ⟨A0_0, c0_0, A0_1, c0_1, A0_2, c0_2, e0, hc0_0, hr0_0, hc0_1, hr0_1, hc0_2, hr0_2⟩ := k24_open hK0
  obtain rfl : cs0 = #[.slice A0_0 x0.f0.length c0_0, .slice A0_1 x0.f1.length c0_1, .slice A0_2 x0.f2.length c0_2, .int .i64 x0.f3, .int .i64 x0.f4, .int .i64 x0.f5] := by apply Array.toList_inj.1; simpa [Value.cells] using e0
  have k1 := h1
  have lt1 : ∀ x ∈ p1, x.block < W.heap.size := by obtain ⟨m, hm⟩ := k1; exact DataW.trod_lt m _ _ _ hm
  obtain ⟨a1, len1, cap1, rfl⟩ := okWide_slice Try.underlying25 (hval 1 25 v1 rfl rfl)
  obtain ⟨f1, hf1⟩ := h1
  obtain ⟨l1, ⟨A1, c1, e1, hc1, hr1⟩, w1⟩ := (Opens.slice Try.underlying25 (by kernel_rfl) opens35) H enc W _ _ _ _ _ _ hf1
  simp [Value.cells] at e1
  obtain ⟨rfl, rfl, rfl⟩ := e1
  obtain ⟨a2, rfl, rfl, rfl, w2⟩ := open_int Try.underlying3 (hval 2 3 v2 rfl rfl) h2
  obtain ⟨a3, rfl, rfl, rfl, w3⟩ := open_int Try.underlying2 (hval 3 2 v3 rfl rfl) h3
  obtain ⟨a4, rfl, rfl, rfl, w4⟩ := open_int Try.underlying2 (hval 4 2 v4 rfl rfl) h4
  obtain ⟨a5, rfl, rfl, rfl, w5⟩ := open_int Try.underlying5 (hval 5 5 v5 rfl rfl) h5
  clear hA0 hval0 hsz0
  obtain ⟨k, hk⟩ := BridgeAdds_pure x0 l1 a2 a3 a4 a5 w0 w1 w2 w3 w4 w5
  refine (goosenecklaw06_BridgeAdds.calls k _ _ x0.f0 _ _ x0.f1 _ _ x0.f2 x0.f3 x0.f4 x0.f5 _ _ l1 a2 a3 a4 a5 true W hr0_0 hc0_0 hr0_1 hc0_1 hr0_2 hc0_2 hr1 hc1 ⟨rfl⟩ hk).mono fun e W' ⟨he, bel⟩ => ?_
  subst he
  exact ⟨_, rfl, _, _, _, [], _, [], hW', trodAll_mk1 (shut_bool Try.underlying4 _), (trodAll_cons_mk (Below.trod laidOut (by kernel_rfl) (of_decide_eq_true (by kernel_rfl)) k0 bel lt0) (trodAll_cons_mk (Below.trod laidOut (by kernel_rfl) (of_decide_eq_true (by kernel_rfl)) k1 bel lt1) (trodAll_cons_mk (shut_int Try.underlying3 w2) (trodAll_cons_mk (shut_int Try.underlying2 w3) (trodAll_cons_mk (shut_int Try.underlying2 w4) (trodAll_cons_mk (shut_int Try.underlying5 w5) trodAll_mk0)))))), rfl, bel.frame _, fun h => by cases h⟩
theorem over : Rows.bridgeAddsRow.holds Try.pinned (OpenSpec.ofChange Rows.bridgeAddsSpec) :=
  OpenClaim.holds_of_wide 4 Try.f4 rfl rfl rfl rfl rfl rfl rfl ⟨rfl, rfl, rfl, rfl, rfl⟩ rfl rfl rfl rfl rfl (by kernel_rfl) Try.func4 (by kernel_rfl)
    (of_decide_eq_true (by kernel_rfl)) (by unfold Func.isWrapper; first | (rw [if_pos (by decide +kernel)]; kernel_rfl) | (rw [if_neg (by decide +kernel)]; exact ⟨rfl, rfl⟩))
    (fun os started H enc _ => lifted os started H enc)
theorem proved : Rows.BridgeAddsSaid := over
#print axioms proved
end Go.Proofs.Ytiklpefckadgdaa.bridgeAdds
namespace Go.Proofs.Ytiklpefckadgdaa
theorem bridgeAdds_holds : Rows.BridgeAddsSaid := bridgeAdds.proved
end Go.Proofs.Ytiklpefckadgdaa
