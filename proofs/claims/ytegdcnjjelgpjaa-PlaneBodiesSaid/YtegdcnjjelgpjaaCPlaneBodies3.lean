/- The law PlaneBodies answers true at every input and leaves its arguments as they were; no condition. Part 4 of 4: the row. -/
import Derived.Test.YtegdcnjjelgpjaaCPlaneBodies0
import Derived.ChangeArms
import Derived.ChangeSame
import Derived.Deep.Slices
import Derived.WideShapes
import Derived.KernelRfl
import Derived.Test.YtegdcnjjelgpjaaCPlaneBodies2
import Derived.Test.YtegdcnjjelgpjaaCPlaneBodies1
import Derived.Test.YtegdcnjjelgpjaaRows
import Derived.WalkKit
import Derived.ProofKit
import Derived.OpenShut
import Derived.ShutString
import Derived.ChangeOld
import Derived.Below
import Derived.SizedLaws
import Derived.Carry
import Derived.Lib.SmallJoins
namespace Go.Proofs.Ytegdcnjjelgpjaa.P
open Go.RowKit Go.Deep Go.ChangeShapes Go.WideShapes Go.Proofs.YtegdcnjjelgpjaaW.PrintWords Go.Proofs.YtegdcnjjelgpjaaW.PrintLast Go.Proofs.YtegdcnjjelgpjaaW.PrintMore

/-- Whatever cells read at type t are those of a value of kind d that is well formed. -/
def Opens {α : Type} (P : Program) (t : TypeId) (d : Kd α) (wf : α → Prop) : Prop :=
  ∀ (H : Type) (enc : TypeId × Value → H) (w : World) (base : Nat) (spare : Nat → Bool) (held : Bool) (fuel : Nat) (cs : List Value) (x : DataW H × List MemPlace), DataW.trod enc P w base spare held fuel t cs = some x → ∃ a : α, d.K w a cs ∧ wf a
/-- The same of a struct's fields from one on: what lies from place 'off' on. -/
def FieldsOpen {α : Type} (P : Program) (fs : List Field) (off : Nat) (d : Kd α) (wf : α → Prop) : Prop :=
  ∀ (H : Type) (enc : TypeId × Value → H) (w : World) (base : Nat) (spare : Nat → Bool) (held : Bool) (cs : List Value), (∀ f ∈ fs, ∃ n y, DataW.trod enc P w base spare held n f.type ((cs.drop f.offset).take (P.cellsOf f.type)) = some y) → cs.length = off + d.sz → ∃ a : α, d.K w a (cs.drop off) ∧ wf a

theorem Opens.int {P : Program} {t : TypeId} {k : IntKind} (hu : P.underlying t = some (.int k)) : Opens P t (Kd.int k) (fun n => (Lit.int k n).wf = true) := by
  intro H enc w base spare held fuel cs x h
  obtain ⟨n, rfl, _, hw⟩ := DataW.trod_int hu h
  exact ⟨n, rfl, hw⟩
theorem Opens.bool {P : Program} {t : TypeId} (hu : P.underlying t = some .bool) : Opens P t Kd.bool (fun _ => True) := by
  intro H enc w base spare held fuel cs x h
  obtain ⟨n, rfl, _⟩ := DataW.trod_bool hu h
  exact ⟨n, rfl, trivial⟩
theorem Opens.string {P : Program} {t : TypeId} (hu : P.underlying t = some .string) : Opens P t Kd.string (fun s => s.size ≤ maxLen) := by
  intro H enc w base spare held fuel cs x h
  obtain ⟨n, rfl, _, hw⟩ := DataW.trod_string hu h
  exact ⟨n, rfl, hw⟩
theorem FieldsOpen.one {α : Type} {P : Program} {f : Field} {off : Nat} {d : Kd α} {wf : α → Prop} (ho : f.offset = off) (hs : P.cellsOf f.type = d.sz) (h : Opens P f.type d wf) : FieldsOpen P [f] off d wf := by
  intro H enc w base spare held cs hf hl
  obtain ⟨n, y, hy⟩ := hf f (List.mem_singleton.2 rfl)
  rw [ho, hs, List.take_of_length_le (by rw [List.length_drop]; omega)] at hy
  exact h H enc w base spare held n _ y hy
theorem FieldsOpen.cons {α β : Type} {P : Program} {f : Field} {fs : List Field} {off : Nat} {d : Kd α} {d' : Kd β} {wf : α → Prop} {wf' : β → Prop} (ho : f.offset = off) (hs : P.cellsOf f.type = d.sz) (h : Opens P f.type d wf) (h' : FieldsOpen P fs (off + d.sz) d' wf') :
    FieldsOpen P (f :: fs) off (Kd.pair d d') (fun x => wf x.1 ∧ wf' x.2) := by
  intro H enc w base spare held cs hf hl
  have hl' : cs.length = off + (d.sz + d'.sz) := hl
  obtain ⟨n, y, hy⟩ := hf f (List.mem_cons_self ..)
  rw [ho, hs] at hy
  obtain ⟨a, ha, wa⟩ := h H enc w base spare held n _ y hy
  obtain ⟨b, hb, wb⟩ := h' H enc w base spare held cs (fun g hg => hf g (List.mem_cons_of_mem _ hg)) (by omega)
  refine ⟨(a, b), ⟨_, _, ?_, ha, hb⟩, wa, wb⟩
  rw [← List.drop_drop, List.take_append_drop]
theorem Opens.struct {α : Type} {P : Program} {t : TypeId} {fs : Array Field} {d : Kd α} {wf : α → Prop} (hu : P.underlying t = some (.struct fs)) (hs : P.cellsOf t = d.sz) (h : FieldsOpen P fs.toList 0 d wf) : Opens P t d wf := by
  intro H enc w base spare held fuel cs x hx
  obtain ⟨xs, n, _, _, hl, hlen, hf⟩ := DataW.trod_struct hu hx
  have hk := h H enc w base spare held cs (fun f hf' => by
    obtain ⟨i, hi⟩ := List.getElem?_of_mem hf'
    have h1 := hf i f (by simpa using hi)
    have hlt : i < xs.length := by
      have := (List.getElem?_eq_some_iff.1 hi).1
      rw [hlen]; simpa using this
    rw [List.getElem?_eq_getElem hlt] at h1
    exact ⟨n, _, h1⟩) (by rw [hl, hs]; omega)
  simpa using hk
theorem Opens.iso {α β : Type} {P : Program} {t : TypeId} {d : Kd α} {f : β → α} {wf : α → Prop} (g : α → β) (hg : ∀ a, f (g a) = a) (h : Opens P t d wf) : Opens P t (Kd.iso d f) (fun b => wf (f b)) := by
  intro H enc w base spare held fuel cs x hx
  obtain ⟨a, ha, wa⟩ := h H enc w base spare held fuel cs x hx
  exact ⟨g a, by show d.K w (f (g a)) cs; rw [hg]; exact ha, by show wf (f (g a)); rw [hg]; exact wa⟩
theorem Opens.slice {α : Type} {P : Program} {t e : TypeId} {d : Kd α} {wf : α → Prop} (hu : P.underlying t = some (.slice e)) (hs : P.cellsOf e = d.sz) (h : Opens P e d wf) : Opens P t (Kd.slice e d) (fun l => l.length ≤ 9223372036854775807 ∧ ∀ x ∈ l, wf x) := by
  intro H enc w base spare held fuel cs x hx
  rcases open_slice hu hx with ⟨rfl, _⟩ | ⟨a, len, cap, m, n, D, Pl, rfl, hb, hl, hm, hmm, _, hel⟩
  · exact ⟨[], ⟨none, 0, rfl, Nat.le_refl _, rfl, by simp, fun h => absurd h (Nat.lt_irrefl 0)⟩, by simp, fun x hx => by cases hx⟩
  · have hlm : len ≤ m := by rw [hmm]; split <;> omega
    have hmx : cap ≤ 9223372036854775807 := by simpa [maxLen] using hm
    have key : ∀ k, k ≤ len → ∃ xs : List α, xs.length = k ∧ (∀ x ∈ xs, wf x) ∧ ∀ j p, xs[j]? = some p → ∃ c, c.length = d.sz ∧ d.K w p c ∧ ∀ i u, c[i]? = some u → w.cell? (a.add (j * d.sz + i)) = some u := by
      intro k
      induction k with
      | zero => intro _; exact ⟨[], rfl, (fun x hx => by cases hx), fun j p hj => by simp at hj⟩
      | succ k ih =>
        intro hk
        obtain ⟨xs, hxl, hxw, hxs⟩ := ih (by omega)
        obtain ⟨cs', hcs, htr⟩ := hel k (by omega)
        obtain ⟨_, hcl, hcell⟩ := World.cells?_some hcs
        obtain ⟨p, hp, wp⟩ := h H enc w base spare held n cs' _ htr
        refine ⟨xs ++ [p], by simp [hxl], ?_, ?_⟩
        · intro x hx
          rcases List.mem_append.1 hx with hx | hx
          · exact hxw x hx
          · rw [List.mem_singleton.1 hx]; exact wp
        · intro j q hj
          rcases Nat.lt_or_ge j xs.length with hj' | hj'
          · rw [List.getElem?_append_left hj'] at hj
            exact hxs j q hj
          · have hjk : j = k := by
              have := (List.getElem?_eq_some_iff.1 hj).1
              rw [List.length_append, List.length_singleton] at this
              omega
            subst hjk
            rw [List.getElem?_append_right (by omega)] at hj
            have hq : p = q := by simpa [hxl] using hj
            subst hq
            refine ⟨cs', by rw [hcl, hs], hp, fun i u hi => ?_⟩
            have hi' : i < cs'.length := (List.getElem?_eq_some_iff.1 hi).1
            have := hcell i (by omega)
            rw [Deep.add_add, hs] at this
            rw [this, hi]
    obtain ⟨xs, hxl, hxw, hxs⟩ := key len (Nat.le_refl _)
    subst hxl
    exact ⟨xs, ⟨some a, cap, rfl, hl, rfl, by omega, fun _ => ⟨a, rfl, hxs⟩⟩, by omega, hxw⟩
theorem wf_i64 {n : Int} (h : (Lit.int .i64 n).wf = true) : -9223372036854775808 ≤ n ∧ n ≤ 9223372036854775807 := by simpa [Lit.wf, IntKind.min, IntKind.max, IntKind.signed, IntKind.bits] using h
theorem wf_i16 {n : Int} (h : (Lit.int .i16 n).wf = true) : -32768 ≤ n ∧ n ≤ 32767 := by simpa [Lit.wf, IntKind.min, IntKind.max, IntKind.signed, IntKind.bits] using h
theorem wf_i8 {n : Int} (h : (Lit.int .i8 n).wf = true) : -128 ≤ n ∧ n ≤ 127 := by simpa [Lit.wf, IntKind.min, IntKind.max, IntKind.signed, IntKind.bits] using h
theorem wf_u8 {n : Int} (h : (Lit.int .u8 n).wf = true) : 0 ≤ n ∧ n ≤ 255 := by simpa [Lit.wf, IntKind.min, IntKind.max, IntKind.signed, IntKind.bits] using h
theorem wf_u16 {n : Int} (h : (Lit.int .u16 n).wf = true) : 0 ≤ n ∧ n ≤ 65535 := by simpa [Lit.wf, IntKind.min, IntKind.max, IntKind.signed, IntKind.bits] using h
theorem wf_u32 {n : Int} (h : (Lit.int .u32 n).wf = true) : 0 ≤ n ∧ n ≤ 4294967295 := by simpa [Lit.wf, IntKind.min, IntKind.max, IntKind.signed, IntKind.bits] using h
end Go.Proofs.Ytegdcnjjelgpjaa.P
namespace Go.Proofs.Ytegdcnjjelgpjaa.P
open Go.RowKit Go.Proofs.YtegdcnjjelgpjaaW.PrintWords Go.Proofs.YtegdcnjjelgpjaaW.PrintLast Go.Proofs.YtegdcnjjelgpjaaW.PrintMore
open Go.Deep Go.ChangeShapes Go.WideShapes
/-! #### struct type 40 -/
structure S40 where
  f0 : Int
  f1 : Int
  f2 : Int
def z40 : S40 := ⟨(0 : Int), (0 : Int), (0 : Int)⟩
def k40 : Kd S40 := Kd.iso (Kd.pair (Kd.int .i64) (Kd.pair (Kd.int .i64) (Kd.int .i64))) (fun x : S40 => (x.f0, x.f1, x.f2))
theorem k40_heap : Kd.Heap k40 := Kd.heap_iso _ (Kd.heap_pair (Kd.heap_int .i64) (Kd.heap_pair (Kd.heap_int .i64) (Kd.heap_int .i64)))
theorem k40_open {w : World} {x : S40} {cs : List Value} (h : k40.K w x cs) : cs = [.int .i64 x.f0, .int .i64 x.f1, .int .i64 x.f2] := by
  obtain ⟨_, _, rfl, rfl, ⟨_, _, rfl, rfl, rfl⟩⟩ := h
  exact rfl
theorem k40_openM {w : World} {base : Nat} {ok : Nat → Prop} {x : S40} {cs : List Value} (h : k40.M w base ok x cs) : cs = [.int .i64 x.f0, .int .i64 x.f1, .int .i64 x.f2] := by
  obtain ⟨_, _, rfl, rfl, ⟨_, _, rfl, rfl, rfl⟩⟩ := h
  exact rfl
theorem k40_mk (w : World) (x : S40)  : k40.K w x [.int .i64 x.f0, .int .i64 x.f1, .int .i64 x.f2] := ⟨[.int .i64 x.f0], [.int .i64 x.f1, .int .i64 x.f2], rfl, rfl, ⟨[.int .i64 x.f1], [.int .i64 x.f2], rfl, rfl, rfl⟩⟩
theorem k40_mkM (w : World) (base : Nat) (ok : Nat → Prop) (x : S40)  : k40.M w base ok x [.int .i64 x.f0, .int .i64 x.f1, .int .i64 x.f2] := ⟨[.int .i64 x.f0], [.int .i64 x.f1, .int .i64 x.f2], rfl, rfl, ⟨[.int .i64 x.f1], [.int .i64 x.f2], rfl, rfl, rfl⟩⟩
theorem k40_mkF (W : World) (ok : Nat → Prop) (x : S40) : Kd.FK k40 W ok x [.int .i64 x.f0, .int .i64 x.f1, .int .i64 x.f2] := fun W2 _ => k40_mk W2 x
def wfS23 (x : S23) : Prop := (Lit.int .i64 x.f0).wf = true ∧ (Lit.int .i64 x.f1).wf = true
theorem opens23 : Opens Try.prog 23 k23 wfS23 := Opens.iso (fun a => ⟨a.1, a.2⟩) (fun a => rfl) (Opens.struct Try.underlying23 (by kernel_rfl) (FieldsOpen.cons rfl (by kernel_rfl) (Opens.int Try.underlying2) (FieldsOpen.one rfl (by kernel_rfl) (Opens.int Try.underlying2))))
def wfS40 (x : S40) : Prop := (Lit.int .i64 x.f0).wf = true ∧ (Lit.int .i64 x.f1).wf = true ∧ (Lit.int .i64 x.f2).wf = true
theorem opens40 : Opens Try.prog 40 k40 wfS40 := Opens.iso (fun a => ⟨a.1, a.2.1, a.2.2⟩) (fun a => rfl) (Opens.struct Try.underlying40 (by kernel_rfl) (FieldsOpen.cons rfl (by kernel_rfl) (Opens.int Try.underlying2) (FieldsOpen.cons rfl (by kernel_rfl) (Opens.int Try.underlying2) (FieldsOpen.one rfl (by kernel_rfl) (Opens.int Try.underlying2)))))
def wfS32 (x : S32) : Prop := (Lit.int .i8 x.f0).wf = true ∧ (Lit.int .i8 x.f1).wf = true
theorem opens32 : Opens Try.prog 32 k32 wfS32 := Opens.iso (fun a => ⟨a.1, a.2⟩) (fun a => rfl) (Opens.struct Try.underlying32 (by kernel_rfl) (FieldsOpen.cons rfl (by kernel_rfl) (Opens.int Try.underlying30) (FieldsOpen.one rfl (by kernel_rfl) (Opens.int Try.underlying30))))
end Go.Proofs.Ytegdcnjjelgpjaa.P
namespace Go.Proofs.Ytegdcnjjelgpjaa.P
open Go.RowKit Go.Proofs.YtegdcnjjelgpjaaW.PrintWords Go.Proofs.YtegdcnjjelgpjaaW.PrintLast Go.Proofs.YtegdcnjjelgpjaaW.PrintMore
def PlaneBodies_Pure : Prop := ∀ (x0 : S23) (x1 : S23) (a2 : Int) (a3 : Int), (wfS23 x0) → (wfS23 x1) → ((Lit.int .i64 a2).wf = true) → ((Lit.int .i64 a3).wf = true) → ∃ k, goosenecklaw01_PlaneBodies.f k x0.f0 x0.f1 x1.f0 x1.f1 a2 a3 = some true
end Go.Proofs.Ytegdcnjjelgpjaa.P
namespace Go.Proofs.Ytegdcnjjelgpjaa.P
open Go.RowKit Go.Proofs.YtegdcnjjelgpjaaW.PrintWords Go.Proofs.YtegdcnjjelgpjaaW.PrintLast Go.Proofs.YtegdcnjjelgpjaaW.PrintMore

theorem works_ev : Ev goosenecklaw01_works.f true := Ev.of goosenecklaw01_works.mono (k := 40) (by decide +kernel)

theorem w64 {x : Int} (h0 : -9223372036854775808 ≤ x) (h1 : x ≤ 9223372036854775807) : wrap64 x = x := by unfold wrap64; omega
theorem wu64 {x : Int} (h0 : 0 ≤ x) (h1 : x < 18446744073709551616) : IntKind.u64.wrap x = x := by
  simp [IntKind.wrap, IntKind.bits, IntKind.signed]; omega

def inR (x lo hi : Int) : Bool := decide (lo ≤ x) && decide (x ≤ hi)
theorem inR_iff {x lo hi : Int} : inR x lo hi = true ↔ lo ≤ x ∧ x ≤ hi := by simp [inR]
theorem within_eq (x lo hi : Int) : plane_within.f x lo hi = some (inR x lo hi) := by
  unfold plane_within.f inR; split <;> rename_i h <;> simp [h]
theorem In_eq (x lo hi : Int) : gooseneckref01_In.f x lo hi = some (inR x lo hi) := by
  unfold gooseneckref01_In.f inR; split <;> rename_i h
  · have : lo ≤ x := h
    simp [this]
  · have : ¬ lo ≤ x := h
    simp [this]

/-- A point is valid. -/
def isP (x y : Int) : Bool := inR x (-16777216) 16777216 && inR y (-16777216) 16777216
theorem isP_iff {x y : Int} : isP x y = true ↔ (-16777216 ≤ x ∧ x ≤ 16777216) ∧ (-16777216 ≤ y ∧ y ≤ 16777216) := by simp [isP, inR]
theorem Is_eq (x y : Int) : gooseneckref01_Is.f x y = some (isP x y) := by
  unfold gooseneckref01_Is.f isP
  rw [In_eq, In_eq]
  cases inR x (-16777216) 16777216 <;> simp

theorem valid_loop (l : List S23) (hl : (l.length : Int) < 9223372036854775807) (d : Nat) : ∀ (i : Nat), l.length - i = d → i ≤ l.length →
    Ev (fun k => plane_valid.l0 k l (l.length : Int) (i : Int)) ((l.drop i).all fun p => isP p.f0 p.f1) := by
  induction d with
  | zero =>
    intro i hd hi
    have he : i = l.length := by omega
    subst he
    refine Ev.step (f := fun _ => some true) (fun k => ?_) (by simpa using Ev.now true)
    simp only [plane_valid.l0]
    rw [if_neg (by omega)]
  | succ d ih =>
    intro i hd hi
    have hlt : i < l.length := by omega
    have hrd : rd_T23 l (i : Int) = l[i] := by
      simp only [rd_T23, Int.toNat_natCast, List.getD_eq_getElem?_getD, List.getElem?_eq_getElem hlt, Option.getD_some]
    have hdrop : l.drop i = l[i] :: l.drop (i + 1) := List.drop_eq_getElem_cons hlt
    have hw : wrap64 ((i : Int) + 1) = ((i + 1 : Nat) : Int) := by rw [w64 (by omega) (by omega)]; rfl
    refine Ev.step (f := fun k => if isP l[i].f0 l[i].f1 = true then plane_valid.l0 k l (l.length : Int) ((i + 1 : Nat) : Int) else some false) (fun k => ?_) ?_
    · simp only [plane_valid.l0]
      rw [if_pos (by omega), if_pos (by omega), if_pos (by omega), hrd, hw, within_eq, within_eq]
      simp only [Option.bind_some, isP]
      rcases Bool.eq_false_or_eq_true (inR l[i].f0 (-16777216) 16777216) with h | h
      · simp only [h, if_true, Bool.true_and]
      · simp [h]
    · rw [hdrop, List.all_cons]
      cases hp : isP l[i].f0 l[i].f1
      · simpa using Ev.now false
      · simpa using ih (i + 1) (by omega) (by omega)
theorem valid_ev (l : List S23) (hl : (l.length : Int) < 9223372036854775807) : Ev (fun k => plane_valid.f k l) (l.all fun p => isP p.f0 p.f1) := by
  have := valid_loop l hl l.length 0 (by omega) (by omega)
  simpa [plane_valid.f] using this
theorem valid1 (x y : Int) : Ev (fun k => plane_valid.f k [⟨x, y⟩]) (isP x y) := by simpa using valid_ev [⟨x, y⟩] (by simp)
theorem valid2 (x y u v : Int) : Ev (fun k => plane_valid.f k [⟨x, y⟩, ⟨u, v⟩]) (isP x y && isP u v) := by simpa using valid_ev [⟨x, y⟩, ⟨u, v⟩] (by simp)
theorem valid3 (x y u v s t : Int) : Ev (fun k => plane_valid.f k [⟨x, y⟩, ⟨u, v⟩, ⟨s, t⟩]) (isP x y && (isP u v && isP s t)) := by simpa using valid_ev [⟨x, y⟩, ⟨u, v⟩, ⟨s, t⟩] (by simp)

/-! ### the root -/
def IsRoot (n r : Int) : Prop := 0 ≤ r ∧ r * r ≤ n ∧ n < (r + 1) * (r + 1)
theorem IsRoot.unique {n r s : Int} (h : IsRoot n r) (k : IsRoot n s) : r = s := by
  obtain ⟨h0, h1, h2⟩ := h
  obtain ⟨k0, k1, k2⟩ := k
  have a : r < s + 1 := by
    rcases Int.lt_or_le r (s + 1) with h | h
    · exact h
    · have := Int.mul_le_mul h h (by omega) h0; omega
  have b : s < r + 1 := by
    rcases Int.lt_or_le s (r + 1) with h | h
    · exact h
    · have := Int.mul_le_mul h h (by omega) k0; omega
  omega
/-- the powers -/
def p2 (j : Nat) : Int := ((2 ^ j : Nat) : Int)
theorem p2_succ (j : Nat) : p2 (j + 1) = 2 * p2 j := by unfold p2; rw [Nat.pow_succ]; push_cast; omega
theorem p2_pos (j : Nat) : 1 ≤ p2 j := by unfold p2; have := Nat.one_le_two_pow (n := j); omega
theorem p2_add (i j : Nat) : p2 (i + j) = p2 i * p2 j := by unfold p2; rw [Nat.pow_add]; push_cast; rfl
theorem p2_mono {i j : Nat} (h : i ≤ j) : p2 i ≤ p2 j := by unfold p2; exact_mod_cast Nat.pow_le_pow_right (by omega) h
theorem shl_one (m : Nat) (h : m ≤ 62) : shl .u64 1 (m : Int) = p2 m := by
  have h1 := p2_mono h
  have h2 : p2 62 = 4611686018427387904 := by decide +kernel
  have h3 := p2_pos m
  unfold shl
  rw [Int.toNat_natCast, Nat.min_eq_left (by simp [IntKind.bits]; omega), Int.one_mul]
  rw [show (2 : Int) ^ m = p2 m by unfold p2; push_cast; rfl, wu64 (by omega) (by omega)]

/-- At the head of round 31-j (bit 4^j, j counted down by 'j+1' rounds still to go): root so far P, a multiple of 2^(j+1). -/
theorem root_loop (n : Int) (hn0 : 0 ≤ n) (hn : n ≤ 9223372036854775807) : ∀ (j : Nat) (m P : Int), j ≤ 32 → 0 ≤ m → P = m * p2 j → P * P ≤ n → n < (P + p2 j) * (P + p2 j) → P + p2 j ≤ 4294967296 →
    ∃ r, IsRoot n r ∧ Ev (fun k => plane_root.l0 k (n - P * P) (P * p2 j) ((32 - j : Nat) : Int)) r := by
  intro j
  induction j with
  | zero =>
    intro m P hj hm hP h1 h2 h3
    have h0 : p2 0 = 1 := rfl
    rw [h0] at h2 h3 hP
    have hP0 : 0 ≤ P := by omega
    refine ⟨P, ⟨hP0, h1, h2⟩, ?_⟩
    refine Ev.step (f := fun _ => some P) (fun k => ?_) (Ev.now P)
    simp only [plane_root.l0]
    rw [if_neg (by omega), h0, Int.mul_one, w64 (by omega) (by omega)]
  | succ j ih =>
    intro m P hj hm hP h1 h2 h3
    have hs := p2_succ j
    have hp := p2_pos j
    have hP0 : 0 ≤ P := by rw [hP]; exact Int.mul_nonneg hm (by omega)
    have hb : p2 (2 * j) = p2 j * p2 j := by rw [show 2 * j = j + j by omega, p2_add]
    have hbit : wrap64 (62 - wrap64 (2 * ((32 - (j + 1) : Nat) : Int))) = ((2 * j : Nat) : Int) := by
      rw [w64 (x := 2 * _) (by omega) (by omega), w64 (by omega) (by omega)]; omega
    have hsh := shl_one (2 * j) (by omega)
    have hlt : P + p2 j ≤ 4294967296 - p2 j := by omega
    have hsq : (P + p2 j) * (P + p2 j) < 18446744073709551616 := by
      have h5 : P + p2 j ≤ 4294967295 := by omega
      have := Int.mul_le_mul h5 h5 (by omega) (by omega)
      omega
    have hex : (P + p2 j) * (P + p2 j) = P * P + P * p2 (j + 1) + p2 j * p2 j := by rw [hs]; grind
    have hPP : 0 ≤ P * P := Int.mul_nonneg hP0 hP0
    have hPb : 0 ≤ P * p2 (j + 1) := Int.mul_nonneg hP0 (by omega)
    have hjj : 0 ≤ p2 j * p2 j := Int.mul_nonneg (by omega) (by omega)
    have hhalf : P * p2 (j + 1) / 2 = P * p2 j := by rw [hs, show P * (2 * p2 j) = 2 * (P * p2 j) by grind]; omega
    have hPj : 0 ≤ P * p2 j := Int.mul_nonneg hP0 (by omega)
    have hnext : P * p2 (j + 1) = 2 * (P * p2 j) := by rw [hs]; grind
    have hidx : wrap64 (((32 - (j + 1) : Nat) : Int) + 1) = ((32 - j : Nat) : Int) := by rw [w64 (by omega) (by omega)]; omega
    have hsum : IntKind.u64.wrap (P * p2 (j + 1) + p2 (2 * j)) = P * p2 (j + 1) + p2 j * p2 j := by rw [hb, wu64 (by omega) (by omega)]
    by_cases hc : n - P * P ≥ P * p2 (j + 1) + p2 j * p2 j
    · obtain ⟨r, hr, he⟩ := ih (2 * m + 1) (P + p2 j) (by omega) (by omega) (by rw [hP, hs]; grind) (by omega) (by rw [show P + p2 j + p2 j = P + p2 (j + 1) by omega]; exact h2) (by omega)
      refine ⟨r, hr, Ev.step (f := fun k => plane_root.l0 k (n - (P + p2 j) * (P + p2 j)) ((P + p2 j) * p2 j) ((32 - j : Nat) : Int)) (fun k => ?_) he⟩
      simp only [plane_root.l0]
      rw [hbit, hsh, if_pos (by omega), if_pos (by omega), hsum, if_pos hc, hidx, hhalf, hb]
      rw [wu64 (x := n - P * P - _) (by omega) (by omega), wu64 (by omega) (by omega)]
      congr 1
      · omega
      · grind
    · obtain ⟨r, hr, he⟩ := ih (2 * m) P (by omega) (by omega) (by rw [hP, hs]; grind) h1 (by omega) (by omega)
      refine ⟨r, hr, Ev.step (f := fun k => plane_root.l0 k (n - P * P) (P * p2 j) ((32 - j : Nat) : Int)) (fun k => ?_) he⟩
      simp only [plane_root.l0]
      rw [hbit, hsh, if_pos (by omega), if_pos (by omega), hsum, if_neg hc, hidx, hhalf]
theorem root_ev (n : Int) (hn0 : 0 ≤ n) (hn : n ≤ 9223372036854775807) : ∃ r, IsRoot n r ∧ Ev (fun k => plane_root.f k n) r := by
  have h32 : p2 32 = 4294967296 := by decide +kernel
  obtain ⟨r, hr, he⟩ := root_loop n hn0 hn 32 0 0 (by omega) (by omega) (by omega) (by omega) (by rw [h32]; omega) (by omega)
  refine ⟨r, hr, Ev.congr (fun k => ?_) he⟩
  unfold plane_root.f
  rw [wu64 hn0 (by omega)]
  simp

theorem sqrt_loop (n : Int) (hn0 : 0 ≤ n) (hn : n ≤ 9223372036854775807) : ∀ (j : Nat) (P : Int), j ≤ 32 → 0 ≤ P → P * P ≤ n → n < (P + p2 j) * (P + p2 j) → P ≤ 3037000499 →
    ∃ r, IsRoot n r ∧ Ev (fun k => gooseneckref01_Sqrt.l0 k n P (p2 j / 2)) r := by
  intro j
  induction j with
  | zero =>
    intro P hj hP0 h1 h2 h3
    have h0 : p2 0 = 1 := rfl
    rw [h0] at h2 ⊢
    refine ⟨P, ⟨hP0, h1, h2⟩, ?_⟩
    refine Ev.step (f := fun _ => some P) (fun k => ?_) (Ev.now P)
    simp only [gooseneckref01_Sqrt.l0]
    rw [if_neg (by omega)]
  | succ j ih =>
    intro P hj hP0 h1 h2 h3
    have hs := p2_succ j
    have hp := p2_pos j
    have hm := p2_mono (show j ≤ 31 by omega)
    have h31 : p2 31 = 2147483648 := by decide +kernel
    have hd : p2 (j + 1) / 2 = p2 j := by omega
    have ht : wrap64 (Int.tdiv (p2 j) 2) = p2 j / 2 := by rw [Int.tdiv_eq_ediv_of_nonneg (by omega), w64 (by omega) (by omega)]
    rw [hd]
    have hx : wrap64 (P + p2 j) = P + p2 j := w64 (by omega) (by omega)
    have hskip : n < (P + p2 j) * (P + p2 j) → (∀ k, gooseneckref01_Sqrt.l0 (k + 1) n P (p2 j) = gooseneckref01_Sqrt.l0 k n P (p2 j / 2)) → ∃ r, IsRoot n r ∧ Ev (fun k => gooseneckref01_Sqrt.l0 k n P (p2 j)) r := by
      intro h hk
      obtain ⟨r, hr, he⟩ := ih P (by omega) hP0 h1 h h3
      exact ⟨r, hr, Ev.step hk he⟩
    by_cases hc : P + p2 j ≤ 3037000499
    · have hsq : (P + p2 j) * (P + p2 j) ≤ 9223372036854775807 := by
        have := Int.mul_le_mul hc hc (by omega) (by omega)
        omega
      have hsq0 : 0 ≤ (P + p2 j) * (P + p2 j) := Int.mul_nonneg (by omega) (by omega)
      by_cases hc2 : (P + p2 j) * (P + p2 j) ≤ n
      · obtain ⟨r, hr, he⟩ := ih (P + p2 j) (by omega) (by omega) hc2 (by rw [show P + p2 j + p2 j = P + p2 (j + 1) by omega]; exact h2) hc
        refine ⟨r, hr, Ev.step (f := fun k => gooseneckref01_Sqrt.l0 k n (P + p2 j) (p2 j / 2)) (fun k => ?_) he⟩
        simp only [gooseneckref01_Sqrt.l0]
        rw [if_pos (by omega), hx, if_pos hc, w64 (by omega) hsq, if_pos hc2, ht]
      · refine hskip (by omega) (fun k => ?_)
        simp only [gooseneckref01_Sqrt.l0]
        rw [if_pos (by omega), hx, if_pos hc, w64 (by omega) hsq, if_neg hc2, ht]
    · refine hskip ?_ (fun k => ?_)
      · have h4 : 3037000500 ≤ P + p2 j := by omega
        have := Int.mul_le_mul h4 h4 (by omega) (by omega)
        omega
      · simp only [gooseneckref01_Sqrt.l0]
        rw [if_pos (by omega), hx, if_neg hc, ht]
theorem sqrt_ev (n : Int) (hn0 : 0 ≤ n) (hn : n ≤ 9223372036854775807) : ∃ r, IsRoot n r ∧ Ev (fun k => gooseneckref01_Sqrt.f k n) r := by
  have h32 : p2 32 = 4294967296 := by decide +kernel
  obtain ⟨r, hr, he⟩ := sqrt_loop n hn0 hn 32 0 (by omega) (by omega) (by omega) (by rw [h32]; omega) (by omega)
  rw [h32] at he
  exact ⟨r, hr, he⟩
/-- Both roots are one number. -/
theorem roots_ev (n : Int) (hn0 : 0 ≤ n) (hn : n ≤ 9223372036854775807) : ∃ r, IsRoot n r ∧ Ev (fun k => plane_root.f k n) r ∧ Ev (fun k => gooseneckref01_Sqrt.f k n) r := by
  obtain ⟨r, hr, he⟩ := root_ev n hn0 hn
  obtain ⟨s, hs, hf⟩ := sqrt_ev n hn0 hn
  obtain rfl := hr.unique hs
  exact ⟨r, hr, he, hf⟩

/-! ### rounded down, nearest -/
theorem div_of {n d q : Int} (hd : 1 ≤ d) (h1 : d * q ≤ n) (h2 : n < d * q + d) : n / d = q := by
  have e : n = (n - d * q) + d * q := by omega
  rw [e, Int.add_mul_ediv_left _ _ (by omega), Int.ediv_eq_zero_of_lt (by omega) (by omega)]
  omega
theorem div_bd (n d : Int) (hd : 1 ≤ d) : d * (n / d) ≤ n ∧ n < d * (n / d) + d := by
  have e1 := Int.mul_ediv_add_emod n d
  have e2 := Int.emod_nonneg n (show d ≠ 0 by omega)
  have e3 := Int.emod_lt_of_pos n (show 0 < d by omega)
  omega
theorem div_ge {n d b : Int} (hd : 1 ≤ d) (h : b * d ≤ n) : b ≤ n / d := (Int.le_ediv_iff_mul_le (by omega)).2 h
theorem div_lt {n d b : Int} (hd : 1 ≤ d) (h : n < b * d) : n / d < b := (Int.ediv_lt_iff_lt_mul (by omega)).2 h
theorem down_key (n d : Int) (hd : 1 ≤ d) (hn0 : -9223372036854775808 < n) (hn1 : n ≤ 9223372036854775807) : (if d = 0 then (none : Option Int) else (if (Int.tmod n d) < 0 then (some (wrap64 ((wrap64 (Int.tdiv n d)) - 1))) else (some (wrap64 (Int.tdiv n d))))) = some (n / d) := by
  rw [if_neg (by omega)]
  by_cases hneg : 0 ≤ n
  · have h1 : Int.tdiv n d = n / d := Int.tdiv_eq_ediv_of_nonneg hneg
    have h2 : Int.tmod n d = n % d := Int.tmod_eq_emod_of_nonneg hneg
    have h3 : 0 ≤ n / d := Int.ediv_nonneg hneg (by omega)
    have h4 : n / d ≤ n := Int.ediv_le_self _ hneg
    have e2 := Int.emod_nonneg n (show d ≠ 0 by omega)
    rw [h1, h2, if_neg (by omega), w64 (by omega) (by omega)]
  · obtain ⟨m, rfl⟩ : ∃ m, n = -m := ⟨-n, by omega⟩
    have h1 : Int.tdiv (-m) d = -(m / d) := by
      rw [← Int.tdiv_eq_ediv_of_nonneg (a := m) (by omega), Int.neg_tdiv]
    have h2 : Int.tmod (-m) d = -(m % d) := by
      rw [← Int.tmod_eq_emod_of_nonneg (a := m) (by omega), Int.neg_tmod]
    have f1 := Int.mul_ediv_add_emod m d
    have f2 := Int.emod_nonneg m (show d ≠ 0 by omega)
    have f3 := Int.emod_lt_of_pos m (show 0 < d by omega)
    have h3 : 0 ≤ m / d := Int.ediv_nonneg (by omega) (by omega)
    have h4 : m / d ≤ m := Int.ediv_le_self _ (by omega)
    rw [h1, h2]
    generalize hq : m / d = q at *
    generalize hr : m % d = r at *
    by_cases hz : r = 0
    · rw [if_neg (by omega), w64 (by omega) (by omega), div_of (q := -q) hd (by rw [Int.mul_neg]; omega) (by rw [Int.mul_neg]; omega)]
    · rw [if_pos (by omega), w64 (x := -q) (by omega) (by omega), w64 (by omega) (by omega), div_of (q := -q - 1) hd (by rw [Int.mul_sub, Int.mul_neg]; omega) (by rw [Int.mul_sub, Int.mul_neg]; omega)]
theorem down_eq (n d : Int) (hd : 1 ≤ d) (hn0 : -9223372036854775808 < n) (hn1 : n ≤ 9223372036854775807) : plane_down.f n d = some (n / d) := down_key n d hd hn0 hn1
theorem Down_eq (n d : Int) (hd : 1 ≤ d) (hn0 : -9223372036854775808 < n) (hn1 : n ≤ 9223372036854775807) : gooseneckref01_Down.f n d = some (n / d) := down_key n d hd hn0 hn1
/-- The nearest whole number. -/
def nearI (n d : Int) : Int := if 2 * (n - n / d * d) ≥ d then n / d + 1 else n / d
theorem near_eq (n d : Int) (hd : 1 ≤ d) (hd1 : d ≤ 4611686018427387904) (hn0 : -9223372036854775808 < n) (hn1 : n ≤ 9223372036854775806) : plane_near.f n d = some (nearI n d) := by
  have hb := div_bd n d hd
  have hm : n / d * d = d * (n / d) := Int.mul_comm _ _
  have h1 : n / d ≤ 9223372036854775806 := by
    have := div_lt (b := 9223372036854775807) hd (show n < 9223372036854775807 * d by omega); omega
  have h2 : -9223372036854775808 ≤ n / d := div_ge hd (by omega)
  unfold plane_near.f nearI
  rw [down_eq n d hd hn0 (by omega), Option.bind_some]
  by_cases hlow : -9223372036854775808 ≤ n / d * d
  · rw [w64 (x := n / d * d) hlow (by omega), w64 (x := n - _) (by omega) (by omega), w64 (x := d - _) (by omega) (by omega), w64 (x := n / d + 1) (by omega) (by omega)]
    by_cases hc : 2 * (n - n / d * d) ≥ d
    · rw [if_pos (by omega), if_pos hc]
    · rw [if_neg (by omega), if_neg hc]
  · have hw : wrap64 (n / d * d) = n / d * d + 18446744073709551616 := by unfold wrap64; omega
    have hw2 : wrap64 (n - wrap64 (n / d * d)) = n - n / d * d := by rw [hw]; unfold wrap64; omega
    rw [hw2, w64 (x := d - _) (by omega) (by omega), w64 (x := n / d + 1) (by omega) (by omega)]
    by_cases hc : 2 * (n - n / d * d) ≥ d
    · rw [if_pos (by omega), if_pos hc]
    · rw [if_neg (by omega), if_neg hc]
theorem Near_eq (n d : Int) (hd : 1 ≤ d) (hd1 : d ≤ 4611686018427387904) (hn0 : -9223372036854775808 < n) (hn1 : n ≤ 9223372036854775806) : gooseneckref01_Near.f n d = some (nearI n d) := by
  have hb := div_bd n d hd
  have hm : n / d * d = d * (n / d) := Int.mul_comm _ _
  have h1 : n / d ≤ 9223372036854775806 := by
    have := div_lt (b := 9223372036854775807) hd (show n < 9223372036854775807 * d by omega); omega
  have h2 : -9223372036854775808 ≤ n / d := div_ge hd (by omega)
  unfold gooseneckref01_Near.f nearI
  rw [Down_eq n d hd hn0 (by omega), Option.bind_some]
  have hw2 : wrap64 (n - wrap64 (n / d * d)) = n - n / d * d := by
    by_cases hlow : -9223372036854775808 ≤ n / d * d
    · rw [w64 (x := n / d * d) hlow (by omega), w64 (x := n - _) (by omega) (by omega)]
    · have hw : wrap64 (n / d * d) = n / d * d + 18446744073709551616 := by unfold wrap64; omega
      rw [hw]; unfold wrap64; omega
  rw [hw2, w64 (x := 2 * _) (by omega) (by omega), w64 (x := n / d + 1) (by omega) (by omega)]
  by_cases hc : 2 * (n - n / d * d) ≥ d
  · rw [if_pos hc, if_pos hc]
  · rw [if_neg hc, if_neg hc]
end Go.Proofs.Ytegdcnjjelgpjaa.P
namespace Go.Proofs.Ytegdcnjjelgpjaa.P
open Go.RowKit Go.Proofs.YtegdcnjjelgpjaaW.PrintWords Go.Proofs.YtegdcnjjelgpjaaW.PrintLast Go.Proofs.YtegdcnjjelgpjaaW.PrintMore

theorem mul_bd {x y A B : Int} (h1 : -A ≤ x) (h2 : x ≤ A) (h3 : -B ≤ y) (h4 : y ≤ B) : -(A * B) ≤ x * y ∧ x * y ≤ A * B := by
  have hA : 0 ≤ A := by omega
  have hB : 0 ≤ B := by omega
  have a1 := Int.mul_nonneg (show 0 ≤ A - x by omega) (show 0 ≤ B - y by omega)
  have a2 := Int.mul_nonneg (show 0 ≤ A + x by omega) (show 0 ≤ B + y by omega)
  have a3 := Int.mul_nonneg (show 0 ≤ A - x by omega) (show 0 ≤ B + y by omega)
  have a4 := Int.mul_nonneg (show 0 ≤ A + x by omega) (show 0 ≤ B - y by omega)
  constructor
  · have : (A - x) * (B + y) + (A + x) * (B - y) = 2 * (A * B) - 2 * (x * y) := by grind
    have : (A - x) * (B - y) + (A + x) * (B + y) = 2 * (A * B) + 2 * (x * y) := by grind
    omega
  · have : (A - x) * (B + y) + (A + x) * (B - y) = 2 * (A * B) - 2 * (x * y) := by grind
    omega
theorem sq_nonneg (x : Int) : 0 ≤ x * x := by
  rcases Int.le_total 0 x with h | h
  · exact Int.mul_nonneg h h
  · exact Int.mul_nonneg_of_nonpos_of_nonpos h h
theorem sq_pos {x : Int} (h : x ≠ 0) : 1 ≤ x * x := by
  have := sq_nonneg x
  have : x * x ≠ 0 := fun e => h (by rcases Int.mul_eq_zero.1 e with e | e <;> exact e)
  omega

/-- What 'result' makes of a point. -/
def resS (x y : Int) : Int × Int × Int := if isP x y = true then (x, y, 0) else (0, 0, 4)
theorem result_ev (x y : Int) : Ev (fun k => plane_result.f k x y) (resS x y) := by
  unfold plane_result.f resS
  have hv := valid1 x y
  cases h : isP x y
  · rw [h] at hv; exact Ev.bind hv (Ev.congr (fun k => by rw [if_neg (by simp), if_neg (by simp)]) (Ev.now _))
  · rw [h] at hv; exact Ev.bind hv (Ev.congr (fun k => by rw [if_pos rfl, if_pos rfl]) (Ev.now _))
theorem refresult_eq (x y : Int) : gooseneckref01_result.f x y = some (resS x y) := by
  unfold gooseneckref01_result.f resS
  rw [Is_eq, Option.bind_some]
  cases h : isP x y <;> simp

/-- The nearest number of a moderate quotient. -/
theorem nearI_bd {n d B : Int} (hd : 1 ≤ d) (h1 : -B ≤ n) (h2 : n ≤ B) (hB : 0 ≤ B) : -B ≤ nearI n d ∧ nearI n d ≤ B + 1 := by
  have hb := div_bd n d hd
  have h3 : -B ≤ n / d := div_ge hd (by
    have : B * 1 ≤ B * d := Int.mul_le_mul_of_nonneg_left hd hB
    rw [Int.neg_mul]; omega)
  have h4 : n / d < B + 1 := div_lt hd (by
    have : B * 1 ≤ B * d := Int.mul_le_mul_of_nonneg_left hd hB
    rw [Int.add_mul]; omega)
  unfold nearI
  split <;> omega

structure Far (u v : Int) : Prop where
  u0 : -33554432 ≤ u
  u1 : u ≤ 33554432
  v0 : -33554432 ≤ v
  v1 : v ≤ 33554432
/-- The one root of a place. -/
theorem place_root (u v : Int) (h : Far u v) : ∃ R, IsRoot (1024 * (u * u + v * v)) R ∧ Ev (fun k => plane_root.f k (wrap64 (1024 * (wrap64 ((wrap64 (u * u)) + (wrap64 (v * v))))))) R ∧ Ev (fun k => gooseneckref01_Sqrt.f k (wrap64 (1024 * (wrap64 ((wrap64 (u * u)) + (wrap64 (v * v))))))) R := by
  have a := mul_bd h.u0 h.u1 h.u0 h.u1
  have b := mul_bd h.v0 h.v1 h.v0 h.v1
  have c := sq_nonneg u
  have d := sq_nonneg v
  rw [w64 (x := u * u) (by omega) (by omega), w64 (x := v * v) (by omega) (by omega), w64 (x := u * u + v * v) (by omega) (by omega), w64 (by omega) (by omega)]
  exact roots_ev _ (by omega) (by omega)
theorem root_ge {n R : Int} (h : IsRoot n R) (hn : 1024 ≤ n) : 32 ≤ R := by
  obtain ⟨h0, h1, h2⟩ := h
  rcases Int.lt_or_le R 32 with h | h
  · have := Int.mul_le_mul (show R + 1 ≤ 32 by omega) (show R + 1 ≤ 32 by omega) (by omega) (by omega)
    omega
  · exact h
theorem root_le {n R B : Int} (h : IsRoot n R) (hB : 0 ≤ B) (hn : n < B * B) : R < B := by
  obtain ⟨h0, h1, h2⟩ := h
  rcases Int.lt_or_le R B with h | h
  · exact h
  · have := Int.mul_le_mul h h hB h0
    omega
/-- The numbers of a place: the program's and the reference's are one. -/
theorem place_near (p q x y R : Int) (h : Far p q) (hx0 : -16777216 ≤ x) (hx1 : x ≤ 16777216) (hy0 : -16777216 ≤ y) (hy1 : y ≤ 16777216) (hR : 32 ≤ R) (hR1 : R ≤ 4294967296) :
    plane_near.f (wrap64 (32 * (wrap64 ((wrap64 (p * x)) - (wrap64 (q * y)))))) R = some (nearI (32 * (p * x - q * y)) R) ∧ gooseneckref01_Near.f (wrap64 (32 * (wrap64 ((wrap64 (p * x)) - (wrap64 (q * y)))))) R = some (nearI (32 * (p * x - q * y)) R) ∧ -36028797018963969 ≤ nearI (32 * (p * x - q * y)) R ∧ nearI (32 * (p * x - q * y)) R ≤ 36028797018963969 := by
  have a := mul_bd h.u0 h.u1 (show -(16777216 : Int) ≤ x by omega) hx1
  have b := mul_bd h.v0 h.v1 (show -(16777216 : Int) ≤ y by omega) hy1
  rw [w64 (x := p * x) (by omega) (by omega), w64 (x := q * y) (by omega) (by omega), w64 (x := p * x - q * y) (by omega) (by omega), w64 (x := 32 * _) (by omega) (by omega)]
  have c := nearI_bd (n := 32 * (p * x - q * y)) (d := R) (B := 36028797018963968) (by omega) (by omega) (by omega) (by omega)
  exact ⟨near_eq _ _ (by omega) (by omega) (by omega) (by omega), Near_eq _ _ (by omega) (by omega) (by omega) (by omega), by omega, by omega⟩
theorem place_near' (p q x y R : Int) (h : Far p q) (hx0 : -16777216 ≤ x) (hx1 : x ≤ 16777216) (hy0 : -16777216 ≤ y) (hy1 : y ≤ 16777216) (hR : 32 ≤ R) (hR1 : R ≤ 4294967296) :
    plane_near.f (wrap64 (32 * (wrap64 ((wrap64 (p * x)) + (wrap64 (q * y)))))) R = some (nearI (32 * (p * x + q * y)) R) ∧ gooseneckref01_Near.f (wrap64 (32 * (wrap64 ((wrap64 (p * x)) + (wrap64 (q * y)))))) R = some (nearI (32 * (p * x + q * y)) R) ∧ -36028797018963969 ≤ nearI (32 * (p * x + q * y)) R ∧ nearI (32 * (p * x + q * y)) R ≤ 36028797018963969 := by
  have a := mul_bd h.u0 h.u1 (show -(16777216 : Int) ≤ x by omega) hx1
  have b := mul_bd h.v0 h.v1 (show -(16777216 : Int) ≤ y by omega) hy1
  rw [w64 (x := p * x) (by omega) (by omega), w64 (x := q * y) (by omega) (by omega), w64 (x := p * x + q * y) (by omega) (by omega), w64 (x := 32 * _) (by omega) (by omega)]
  have c := nearI_bd (n := 32 * (p * x + q * y)) (d := R) (B := 36028797018963968) (by omega) (by omega) (by omega) (by omega)
  exact ⟨near_eq _ _ (by omega) (by omega) (by omega) (by omega), Near_eq _ _ (by omega) (by omega) (by omega) (by omega), by omega, by omega⟩

/-- What a place comes to, R being the root. -/
def placeS (ax ay u v x y R : Int) : Int × Int × Int := resS (ax + nearI (32 * (u * x - v * y)) R) (ay + nearI (32 * (v * x + u * y)) R)
theorem place_both (ax ay hx hy x y : Int) (ha : isP ax ay = true) (hh : isP hx hy = true) (hx0 : -16777216 ≤ x) (hx1 : x ≤ 16777216) (hy0 : -16777216 ≤ y) (hy1 : y ≤ 16777216) (hne : ¬ (hx - ax = 0 ∧ hy - ay = 0)) :
    ∃ R, IsRoot (1024 * ((hx - ax) * (hx - ax) + (hy - ay) * (hy - ay))) R ∧ 32 ≤ R ∧ R ≤ 4294967296 ∧ Ev (fun k => plane_place.f k ax ay hx hy x y) (placeS ax ay (hx - ax) (hy - ay) x y R) ∧
      Ev (fun k => (gooseneckref01_Put.f k ax ay hx hy x y).bind fun bt => gooseneckref01_result.f bt.1 bt.2) (placeS ax ay (hx - ax) (hy - ay) x y R) := by
  have ga := isP_iff.1 ha
  have gh := isP_iff.1 hh
  generalize hu : hx - ax = u at *
  generalize hv : hy - ay = v at *
  have hf : Far u v := ⟨by omega, by omega, by omega, by omega⟩
  have hf' : Far v u := ⟨by omega, by omega, by omega, by omega⟩
  obtain ⟨R, hR, e1, e2⟩ := place_root u v hf
  have hn : 1024 ≤ 1024 * (u * u + v * v) := by
    have c := sq_nonneg u
    have d := sq_nonneg v
    by_cases h : u = 0
    · have := sq_pos (x := v) (fun e => hne ⟨h, e⟩); omega
    · have := sq_pos (x := u) h; omega
  have h32 := root_ge hR hn
  have a := mul_bd hf.u0 hf.u1 hf.u0 hf.u1
  have b := mul_bd hf.v0 hf.v1 hf.v0 hf.v1
  have hRB : R ≤ 4294967296 := Int.le_of_lt (root_le hR (by omega) (by omega))
  obtain ⟨n1, n1', n2, n3⟩ := place_near u v x y R hf hx0 hx1 hy0 hy1 h32 hRB
  obtain ⟨m1, m1', m2, m3⟩ := place_near' v u x y R hf' hx0 hx1 hy0 hy1 h32 hRB
  have hwu : wrap64 (hx - ax) = u := by rw [hu, w64 (by omega) (by omega)]
  have hwv : wrap64 (hy - ay) = v := by rw [hv, w64 (by omega) (by omega)]
  refine ⟨R, hR, h32, hRB, ?_, ?_⟩
  · have hj : Ev (fun k => plane_place.j0 k x y u v false ax ay) (placeS ax ay u v x y R) := by
      refine Ev.step (fun k => by rw [plane_place.j0]) ?_
      simp only [Bool.false_eq_true, if_false]
      refine Ev.bind e1 ?_
      simp only [n1, m1, Option.bind_some]
      rw [w64 (x := ax + _) (by omega) (by omega), w64 (x := ay + _) (by omega) (by omega)]
      exact Ev.bind (result_ev _ _) (Ev.now _)
    unfold plane_place.f
    rw [hwu, hwv]
    by_cases h : u = 0
    · simp only [if_pos h, show (v == 0) = false by simpa using fun e => hne ⟨h, e⟩]; exact hj
    · simp only [if_neg h]; exact hj
  · unfold gooseneckref01_Put.f
    rw [hwu, hwv]
    refine Ev.bind (f := fun _ bt => gooseneckref01_result.f bt.1 bt.2) (a := (ax + nearI (32 * (u * x - v * y)) R, ay + nearI (32 * (v * x + u * y)) R)) ?_ ?_
    · refine Ev.bind e2 ?_
      simp only [n1', m1', Option.bind_some]
      rw [w64 (x := ax + _) (by omega) (by omega), w64 (x := ay + _) (by omega) (by omega)]
      exact Ev.now _
    · simp only [refresult_eq]
      exact Ev.now _
theorem place_zero (ax ay hx hy x y : Int) (h : hx - ax = 0 ∧ hy - ay = 0) : Ev (fun k => plane_place.f k ax ay hx hy x y) (0, 0, 9) := by
  unfold plane_place.f
  rw [h.1, h.2, show wrap64 0 = 0 from w64 (by omega) (by omega)]
  simp only [if_true]
  refine Ev.step (f := fun _ => some (0, 0, 9)) (fun k => ?_) (Ev.now _)
  rw [plane_place.j0]
  simp

theorem eta3 (o : Option (Int × Int × Int)) : (o.bind fun b => some (b.1, b.2.1, b.2.2)) = o := by cases o <;> rfl
theorem Place_both (ax ay hx hy x y : Int) : ∃ r, Ev (fun k => plane_Place.f k ax ay hx hy x y) r ∧ Ev (fun k => gooseneckref01_Place.f k ax ay hx hy x y) r := by
  unfold plane_Place.f gooseneckref01_Place.f
  simp only [Is_eq, within_eq, Option.bind_some]
  have hv := valid2 ax ay hx hy
  have hbad : ∀ b c : Bool, b = true → Ev (fun k => gooseneckref01_Place.j0 k x y b ax ay hx hy) (0, 0, 2) := fun b c hb =>
    Ev.step (f := fun _ => some (0, 0, 2)) (fun k => by rw [gooseneckref01_Place.j0, if_pos hb]) (Ev.now _)
  by_cases ha : isP ax ay = true
  · by_cases hh : isP hx hy = true
    · rw [ha, hh] at hv
      simp only [Bool.and_self] at hv
      simp only [ha, hh, Bool.not_true, if_true]
      have hj : ∀ g : Nat → Option (Int × Int × Int), (∀ k, gooseneckref01_Place.j0 (k + 1) x y false ax ay hx hy = g k) → ∀ r, Ev g r → Ev (fun k => gooseneckref01_Place.j0 k x y false ax ay hx hy) r := fun g hg r hr => Ev.step hg hr
      by_cases hxr : inR x (-16777216) 16777216 = true
      · by_cases hyr : inR y (-16777216) 16777216 = true
        · have gx := inR_iff.1 hxr
          have gy := inR_iff.1 hyr
          by_cases hz : hx - ax = 0 ∧ hy - ay = 0
          · refine ⟨(0, 0, 9), Ev.bind hv ?_, ?_⟩
            · simp only [hxr, hyr, if_true]
              exact Ev.bind (place_zero _ _ _ _ _ _ hz) (Ev.now _)
            · refine Ev.step (fun k => by rw [gooseneckref01_Place.j0]) ?_
              simp only [In_eq, hxr, hyr, Bool.false_eq_true, if_false, if_true, Option.bind_some, Bool.not_true]
              refine Ev.step (f := fun _ => some (0, 0, 9)) (fun k => ?_) (Ev.now _)
              rw [gooseneckref01_Place.j1, if_neg (by simp), if_pos (by simp; omega)]
          · obtain ⟨R, _, _, _, e1, e2⟩ := place_both ax ay hx hy x y ha hh gx.1 gx.2 gy.1 gy.2 hz
            refine ⟨placeS ax ay (hx - ax) (hy - ay) x y R, Ev.bind hv ?_, ?_⟩
            · simp only [hxr, hyr, if_true]
              exact Ev.bind e1 (Ev.now _)
            · refine Ev.step (fun k => by rw [gooseneckref01_Place.j0]) ?_
              simp only [In_eq, hxr, hyr, Bool.false_eq_true, if_false, if_true, Option.bind_some, Bool.not_true]
              refine Ev.step (f := fun k => (gooseneckref01_Put.f k ax ay hx hy x y).bind fun bt => gooseneckref01_result.f bt.1 bt.2) (fun k => ?_) e2
              rw [gooseneckref01_Place.j1, if_neg (by simp), if_neg (by simp; omega)]
              simp only [eta3]
        · refine ⟨(0, 0, 3), Ev.bind hv ?_, ?_⟩
          · simp only [hxr, if_true]
            exact Ev.congr (fun k => by rw [if_neg hyr]) (Ev.now _)
          · refine Ev.step (fun k => by rw [gooseneckref01_Place.j0]) ?_
            have hy2 : inR y (-16777216) 16777216 = false := by simpa using hyr
            simp only [In_eq, hxr, hy2, Bool.false_eq_true, if_false, if_true, Option.bind_some, Bool.not_false]
            refine Ev.step (f := fun _ => some (0, 0, 3)) (fun k => ?_) (Ev.now _)
            rw [gooseneckref01_Place.j1, if_pos rfl]
      · refine ⟨(0, 0, 3), Ev.bind hv ?_, ?_⟩
        · exact Ev.congr (fun k => by rw [if_pos rfl, if_neg hxr]) (Ev.now _)
        · refine Ev.step (fun k => by rw [gooseneckref01_Place.j0]) ?_
          have hx2 : inR x (-16777216) 16777216 = false := by simpa using hxr
          simp only [In_eq, hx2, Bool.false_eq_true, if_false, Option.bind_some]
          refine Ev.step (f := fun _ => some (0, 0, 3)) (fun k => ?_) (Ev.now _)
          rw [gooseneckref01_Place.j1, if_pos rfl]
    · have hh2 : isP hx hy = false := by simpa using hh
      rw [ha, hh2] at hv
      refine ⟨(0, 0, 2), Ev.bind hv (Ev.congr (fun k => by rw [if_neg (by simp)]) (Ev.now _)), ?_⟩
      simp only [ha, hh2, if_true, Bool.not_false]
      exact hbad true true rfl
  · have ha2 : isP ax ay = false := by simpa using ha
    rw [ha2] at hv
    refine ⟨(0, 0, 2), Ev.bind hv (Ev.congr (fun k => by rw [if_neg (by simp)]) (Ev.now _)), ?_⟩
    simp only [ha2, Bool.false_eq_true, if_false]
    exact hbad true true rfl
theorem Pull_both (ax ay hx hy x : Int) : ∃ r, Ev (fun k => plane_Pull.f k ax ay hx hy x) r ∧ Ev (fun k => gooseneckref01_Pull.f k ax ay hx hy x) r := by
  unfold plane_Pull.f gooseneckref01_Pull.f
  simp only [Is_eq, within_eq, Option.bind_some]
  have hv := valid2 hx hy ax ay
  have hbad : Ev (fun k => gooseneckref01_Pull.j0 k x true ax ay hx hy) (0, 0, 2) :=
    Ev.step (f := fun _ => some (0, 0, 2)) (fun k => by rw [gooseneckref01_Pull.j0, if_pos rfl]) (Ev.now _)
  by_cases ha : isP ax ay = true
  · by_cases hh : isP hx hy = true
    · rw [ha, hh] at hv
      simp only [Bool.and_self] at hv
      simp only [ha, hh, Bool.not_true, if_true]
      by_cases h : inR x 1 16777216 = true
      · have gx := inR_iff.1 h
        by_cases hz : hx - ax = 0 ∧ hy - ay = 0
        · refine ⟨(0, 0, 9), Ev.bind hv ?_, ?_⟩
          · simp only [h, if_true]
            exact Ev.bind (place_zero _ _ _ _ _ _ hz) (Ev.now _)
          · refine Ev.step (f := fun _ => some (0, 0, 9)) (fun k => ?_) (Ev.now _)
            rw [gooseneckref01_Pull.j0, if_neg (by simp), In_eq, h, Option.bind_some, if_pos rfl, if_pos (by simp; omega)]
        · obtain ⟨R, _, _, _, e1, e2⟩ := place_both ax ay hx hy x 0 ha hh (by omega) (by omega) (by omega) (by omega) hz
          refine ⟨placeS ax ay (hx - ax) (hy - ay) x 0 R, Ev.bind hv ?_, ?_⟩
          · simp only [h, if_true]
            exact Ev.bind e1 (Ev.now _)
          · refine Ev.step (f := fun k => (gooseneckref01_Put.f k ax ay hx hy x 0).bind fun bt => gooseneckref01_result.f bt.1 bt.2) (fun k => ?_) e2
            rw [gooseneckref01_Pull.j0, if_neg (by simp), In_eq, h, Option.bind_some, if_pos rfl, if_neg (by simp; omega)]
            simp only [eta3]
      · refine ⟨(0, 0, 3), Ev.bind hv (Ev.congr (fun k => by rw [if_pos rfl, if_neg h]) (Ev.now _)), ?_⟩
        refine Ev.step (f := fun _ => some (0, 0, 3)) (fun k => ?_) (Ev.now _)
        rw [gooseneckref01_Pull.j0, if_neg (by simp), In_eq, Option.bind_some, if_neg h]
    · have hh2 : isP hx hy = false := by simpa using hh
      rw [ha, hh2] at hv
      refine ⟨(0, 0, 2), Ev.bind hv (Ev.congr (fun k => by rw [if_neg (by simp)]) (Ev.now _)), ?_⟩
      simp only [hh2, Bool.false_eq_true, if_false]
      exact hbad
  · have ha2 : isP ax ay = false := by simpa using ha
    rw [ha2] at hv
    refine ⟨(0, 0, 2), Ev.bind hv (Ev.congr (fun k => by rw [if_neg (by simp)]) (Ev.now _)), ?_⟩
    by_cases hh : isP hx hy = true
    · simp only [ha2, hh, if_true, Bool.not_false]; exact hbad
    · have hh2 : isP hx hy = false := by simpa using hh
      simp only [hh2, Bool.false_eq_true, if_false]; exact hbad
end Go.Proofs.Ytegdcnjjelgpjaa.P
namespace Go.Proofs.Ytegdcnjjelgpjaa.P
open Go.RowKit Go.Proofs.YtegdcnjjelgpjaaW.PrintWords Go.Proofs.YtegdcnjjelgpjaaW.PrintLast Go.Proofs.YtegdcnjjelgpjaaW.PrintMore

theorem PlaneBodies_pure : PlaneBodies_Pure := by
  intro ⟨a, b⟩ ⟨c, d⟩ x y _ _ _ _
  obtain ⟨r1, h1, h1'⟩ := Place_both a b c d x y
  obtain ⟨r2, h2, h2'⟩ := Pull_both a b c d x
  refine Ev.rounds (g := fun k => goosenecklaw01_PlaneBodies.f k a b c d x y) ?_
  unfold goosenecklaw01_PlaneBodies.f
  refine Ev.bind h1 (Ev.bind h1' (Ev.bind h2 (Ev.bind h2' ?_)))
  simp only [beq_self_eq_true, Bool.and_self, if_true]
  exact Ev.bind works_ev (Ev.now _)
end Go.Proofs.Ytegdcnjjelgpjaa.P
namespace Go.Proofs.Ytegdcnjjelgpjaa.planeBodies
open Go.ChangeShapes Go.WideShapes Go.ChangeAt Go.RowKit Go.Proofs.Ytegdcnjjelgpjaa.P
open Go.Proofs.YtegdcnjjelgpjaaW.PrintWords Go.Proofs.YtegdcnjjelgpjaaW.PrintLast Go.Proofs.YtegdcnjjelgpjaaW.PrintMore
open Go.ChangeMaps (open_string shut_string)
set_option linter.unusedVariables false
theorem own : ownKnob Try.prog.godebug = none := by kernel_rfl
theorem laidOut : laidOutB Try.prog = true := by kernel_rfl
set_option maxRecDepth 100000 in
theorem lifted (os : Os) (started : os.Started) (H : Type) (enc : TypeId × Value → H) :
    ReturnsInHanded {} Try.checked os 3 .any (Rows.planeBodiesSpec.pre6 enc Try.prog Try.f3 Rows.planeBodiesRow.domain false) (Rows.planeBodiesSpec.post enc Try.prog Try.f3 false true false false) := by
  refine returnsInHanded_of_change_sized (C := Try.checked) own started (by kernel_rfl) Try.func3
    (ChangeSpec.witness6 (enc := enc) (C := Try.checked) false ⟨#[], #[.agg #[.int .i64 0, .int .i64 0], .agg #[.int .i64 0, .int .i64 0], .int .i64 0, .int .i64 0], []⟩ 8 (by kernel_rfl) (by kernel_rfl) (by kernel_rfl) (by kernel_rfl)) ?_
  intro W base args ds gs before hval0 hW hcnd hsz0 _
  have hval : ∀ (j : Nat) t v, Try.f3.params[j]? = some t → args[j]? = some v → Value.okWide Try.prog W .any base t v := hval0
  have hW' := hW
  obtain ⟨p, q, hA0, hV, rfl, hfz, hnd⟩ := hW
  have hA : DataW.TrodAll enc Try.prog W 0 (fun _ => true) true Try.f3.params.toList args.toList ds p := hA0
  rw [Try.params3] at hA hval
  obtain ⟨v0, vs0, d0, ds0, p0, q0, hargs, rfl, rfl, h0, r0⟩ := trodAll_cons hA
  obtain ⟨v1, vs1, d1, ds1, p1, q1, rfl, rfl, rfl, h1, r1⟩ := trodAll_cons r0
  obtain ⟨v2, vs2, d2, ds2, p2, q2, rfl, rfl, rfl, h2, r2⟩ := trodAll_cons r1
  obtain ⟨v3, vs3, d3, ds3, p3, q3, rfl, rfl, rfl, h3, r3⟩ := trodAll_cons r2
  obtain ⟨rfl, rfl, rfl⟩ := trodAll_nil r3
  obtain rfl : args = #[v0, v1, v2, v3] := by cases args; simp_all
  obtain ⟨rfl, rfl⟩ := trodVars_none hV
  have k0 := h0
  have lt0 : ∀ x ∈ p0, x.block < W.heap.size := by obtain ⟨m, hm⟩ := k0; exact DataW.trod_lt m _ _ _ hm
  obtain ⟨cs0, rfl, hz0⟩ := okWide_struct Try.underlying23 (hval 0 23 v0 rfl rfl)
  obtain ⟨f0, hf0⟩ := h0
  obtain ⟨x0, hK0, w0⟩ := opens23 H enc W _ _ _ _ _ _ hf0
  have e0 := k23_open hK0
  obtain rfl : cs0 = #[.int .i64 x0.f0, .int .i64 x0.f1] := by apply Array.toList_inj.1; simpa [Value.cells] using e0
  have k1 := h1
  have lt1 : ∀ x ∈ p1, x.block < W.heap.size := by obtain ⟨m, hm⟩ := k1; exact DataW.trod_lt m _ _ _ hm
  obtain ⟨cs1, rfl, hz1⟩ := okWide_struct Try.underlying23 (hval 1 23 v1 rfl rfl)
  obtain ⟨f1, hf1⟩ := h1
  obtain ⟨x1, hK1, w1⟩ := opens23 H enc W _ _ _ _ _ _ hf1
  have e1 := k23_open hK1
  obtain rfl : cs1 = #[.int .i64 x1.f0, .int .i64 x1.f1] := by apply Array.toList_inj.1; simpa [Value.cells] using e1
  obtain ⟨a2, rfl, rfl, rfl, w2⟩ := open_int Try.underlying2 (hval 2 2 v2 rfl rfl) h2
  obtain ⟨a3, rfl, rfl, rfl, w3⟩ := open_int Try.underlying2 (hval 3 2 v3 rfl rfl) h3
  clear hA0 hval0 hsz0
  obtain ⟨k, hk⟩ := PlaneBodies_pure x0 x1 a2 a3 w0 w1 w2 w3
  refine (goosenecklaw01_PlaneBodies.calls k x0.f0 x0.f1 x1.f0 x1.f1 a2 a3 true W  hk).mono fun e W' ⟨he, bel⟩ => ?_
  subst he
  exact ⟨_, rfl, _, _, _, [], _, [], hW', trodAll_mk1 (shut_bool Try.underlying4 _), (trodAll_cons_mk (Below.trod laidOut (by kernel_rfl) (of_decide_eq_true (by kernel_rfl)) k0 bel lt0) (trodAll_cons_mk (Below.trod laidOut (by kernel_rfl) (of_decide_eq_true (by kernel_rfl)) k1 bel lt1) (trodAll_cons_mk (shut_int Try.underlying2 w2) (trodAll_cons_mk (shut_int Try.underlying2 w3) trodAll_mk0)))), rfl, bel.frame _, fun h => by cases h⟩
theorem over : Rows.planeBodiesRow.holds Try.pinned (OpenSpec.ofChange Rows.planeBodiesSpec) :=
  OpenClaim.holds_of_wide 3 Try.f3 rfl rfl rfl rfl rfl rfl rfl ⟨rfl, rfl, rfl, rfl, rfl⟩ rfl rfl rfl rfl rfl (by kernel_rfl) Try.func3 (by kernel_rfl)
    (of_decide_eq_true (by kernel_rfl)) (by unfold Func.isWrapper; first | (rw [if_pos (by decide +kernel)]; kernel_rfl) | (rw [if_neg (by decide +kernel)]; exact ⟨rfl, rfl⟩))
    (fun os started H enc _ => lifted os started H enc)
theorem proved : Rows.PlaneBodiesSaid := over
#print axioms proved
end Go.Proofs.Ytegdcnjjelgpjaa.planeBodies
namespace Go.Proofs.Ytegdcnjjelgpjaa
/-- The row, under a short name, for the claim. -/
theorem planeBodies_holds : Rows.PlaneBodiesSaid := planeBodies.proved
end Go.Proofs.Ytegdcnjjelgpjaa
