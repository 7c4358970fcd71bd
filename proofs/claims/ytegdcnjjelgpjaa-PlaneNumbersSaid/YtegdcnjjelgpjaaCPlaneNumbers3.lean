/- The law PlaneNumbers answers true at every input and leaves its arguments as they were; no condition. Part 4 of 4: the row. -/
import Derived.Test.YtegdcnjjelgpjaaCPlaneNumbers2
import Derived.KernelRfl
import Derived.Test.YtegdcnjjelgpjaaCPlaneNumbers1
import Derived.Test.YtegdcnjjelgpjaaCPlaneNumbers0
import Derived.Test.YtegdcnjjelgpjaaRows
import Derived.WalkKit
import Derived.ProofKit
import Derived.OpenShut
import Derived.ShutString
import Derived.ChangeOld
import Derived.Below
import Derived.SizedLaws
import Derived.Carry
import Derived.Lib.SmallJoins
namespace Go.Proofs.Ytegdcnjjelgpjaa.P
open Go.RowKit Go.Proofs.YtegdcnjjelgpjaaW.PrintWords Go.Proofs.YtegdcnjjelgpjaaW.PrintLast Go.Proofs.YtegdcnjjelgpjaaW.PrintMore
open Go.Deep Go.ChangeShapes Go.WideShapes
/-! #### struct type 40 -/
structure S40 where
  f0 : Int
  f1 : Int
  f2 : Int
def z40 : S40 := ⟨(0 : Int), (0 : Int), (0 : Int)⟩
def k40 : Kd S40 := Kd.iso (Kd.pair (Kd.int .i64) (Kd.pair (Kd.int .i64) (Kd.int .i64))) (fun x : S40 => (x.f0, x.f1, x.f2))
theorem k40_heap : Kd.Heap k40 := Kd.heap_iso _ (Kd.heap_pair (Kd.heap_int .i64) (Kd.heap_pair (Kd.heap_int .i64) (Kd.heap_int .i64)))
theorem k40_open {w : World} {x : S40} {cs : List Value} (h : k40.K w x cs) : cs = [.int .i64 x.f0, .int .i64 x.f1, .int .i64 x.f2] := by
  obtain ⟨_, _, rfl, rfl, ⟨_, _, rfl, rfl, rfl⟩⟩ := h
  exact rfl
theorem k40_openM {w : World} {base : Nat} {ok : Nat → Prop} {x : S40} {cs : List Value} (h : k40.M w base ok x cs) : cs = [.int .i64 x.f0, .int .i64 x.f1, .int .i64 x.f2] := by
  obtain ⟨_, _, rfl, rfl, ⟨_, _, rfl, rfl, rfl⟩⟩ := h
  exact rfl
theorem k40_mk (w : World) (x : S40)  : k40.K w x [.int .i64 x.f0, .int .i64 x.f1, .int .i64 x.f2] := ⟨[.int .i64 x.f0], [.int .i64 x.f1, .int .i64 x.f2], rfl, rfl, ⟨[.int .i64 x.f1], [.int .i64 x.f2], rfl, rfl, rfl⟩⟩
theorem k40_mkM (w : World) (base : Nat) (ok : Nat → Prop) (x : S40)  : k40.M w base ok x [.int .i64 x.f0, .int .i64 x.f1, .int .i64 x.f2] := ⟨[.int .i64 x.f0], [.int .i64 x.f1, .int .i64 x.f2], rfl, rfl, ⟨[.int .i64 x.f1], [.int .i64 x.f2], rfl, rfl, rfl⟩⟩
theorem k40_mkF (W : World) (ok : Nat → Prop) (x : S40) : Kd.FK k40 W ok x [.int .i64 x.f0, .int .i64 x.f1, .int .i64 x.f2] := fun W2 _ => k40_mk W2 x
def wfS23 (x : S23) : Prop := (Lit.int .i64 x.f0).wf = true ∧ (Lit.int .i64 x.f1).wf = true
theorem opens23 : Opens Try.prog 23 k23 wfS23 := Opens.iso (fun a => ⟨a.1, a.2⟩) (fun a => rfl) (Opens.struct Try.underlying23 (by kernel_rfl) (FieldsOpen.cons rfl (by kernel_rfl) (Opens.int Try.underlying2) (FieldsOpen.one rfl (by kernel_rfl) (Opens.int Try.underlying2))))
def wfS40 (x : S40) : Prop := (Lit.int .i64 x.f0).wf = true ∧ (Lit.int .i64 x.f1).wf = true ∧ (Lit.int .i64 x.f2).wf = true
theorem opens40 : Opens Try.prog 40 k40 wfS40 := Opens.iso (fun a => ⟨a.1, a.2.1, a.2.2⟩) (fun a => rfl) (Opens.struct Try.underlying40 (by kernel_rfl) (FieldsOpen.cons rfl (by kernel_rfl) (Opens.int Try.underlying2) (FieldsOpen.cons rfl (by kernel_rfl) (Opens.int Try.underlying2) (FieldsOpen.one rfl (by kernel_rfl) (Opens.int Try.underlying2)))))
def wfS32 (x : S32) : Prop := (Lit.int .i8 x.f0).wf = true ∧ (Lit.int .i8 x.f1).wf = true
theorem opens32 : Opens Try.prog 32 k32 wfS32 := Opens.iso (fun a => ⟨a.1, a.2⟩) (fun a => rfl) (Opens.struct Try.underlying32 (by kernel_rfl) (FieldsOpen.cons rfl (by kernel_rfl) (Opens.int Try.underlying30) (FieldsOpen.one rfl (by kernel_rfl) (Opens.int Try.underlying30))))
end Go.Proofs.Ytegdcnjjelgpjaa.P
namespace Go.Proofs.Ytegdcnjjelgpjaa.P
open Go.RowKit Go.Proofs.YtegdcnjjelgpjaaW.PrintWords Go.Proofs.YtegdcnjjelgpjaaW.PrintLast Go.Proofs.YtegdcnjjelgpjaaW.PrintMore
def PlaneNumbers_Pure : Prop := ∀ (a0 : Int) (a1 : Int) (x2 : S23) (x3 : S23) (x4 : S23), ((Lit.int .i64 a0).wf = true) → ((Lit.int .i64 a1).wf = true) → (wfS23 x2) → (wfS23 x3) → (wfS23 x4) → ∃ k, goosenecklaw01_PlaneNumbers.f k a0 a1 x2.f0 x2.f1 x3.f0 x3.f1 x4.f0 x4.f1 = some true
end Go.Proofs.Ytegdcnjjelgpjaa.P
namespace Go.Proofs.Ytegdcnjjelgpjaa.P
open Go.RowKit Go.Proofs.YtegdcnjjelgpjaaW.PrintWords Go.Proofs.YtegdcnjjelgpjaaW.PrintLast Go.Proofs.YtegdcnjjelgpjaaW.PrintMore

theorem works_ev : Ev goosenecklaw01_works.f true := Ev.of goosenecklaw01_works.mono (k := 40) (by decide +kernel)

theorem w64 {x : Int} (h0 : -9223372036854775808 ≤ x) (h1 : x ≤ 9223372036854775807) : wrap64 x = x := by unfold wrap64; omega
theorem wu64 {x : Int} (h0 : 0 ≤ x) (h1 : x < 18446744073709551616) : IntKind.u64.wrap x = x := by
  simp [IntKind.wrap, IntKind.bits, IntKind.signed]; omega

def inR (x lo hi : Int) : Bool := decide (lo ≤ x) && decide (x ≤ hi)
theorem inR_iff {x lo hi : Int} : inR x lo hi = true ↔ lo ≤ x ∧ x ≤ hi := by simp [inR]
theorem within_eq (x lo hi : Int) : plane_within.f x lo hi = some (inR x lo hi) := by
  unfold plane_within.f inR; split <;> rename_i h <;> simp [h]
theorem In_eq (x lo hi : Int) : gooseneckref01_In.f x lo hi = some (inR x lo hi) := by
  unfold gooseneckref01_In.f inR; split <;> rename_i h
  · have : lo ≤ x := h
    simp [this]
  · have : ¬ lo ≤ x := h
    simp [this]

/-- A point is valid. -/
def isP (x y : Int) : Bool := inR x (-16777216) 16777216 && inR y (-16777216) 16777216
theorem isP_iff {x y : Int} : isP x y = true ↔ (-16777216 ≤ x ∧ x ≤ 16777216) ∧ (-16777216 ≤ y ∧ y ≤ 16777216) := by simp [isP, inR]
theorem Is_eq (x y : Int) : gooseneckref01_Is.f x y = some (isP x y) := by
  unfold gooseneckref01_Is.f isP
  rw [In_eq, In_eq]
  cases inR x (-16777216) 16777216 <;> simp

theorem valid_loop (l : List S23) (hl : (l.length : Int) < 9223372036854775807) (d : Nat) : ∀ (i : Nat), l.length - i = d → i ≤ l.length →
    Ev (fun k => plane_valid.l0 k l (l.length : Int) (i : Int)) ((l.drop i).all fun p => isP p.f0 p.f1) := by
  induction d with
  | zero =>
    intro i hd hi
    have he : i = l.length := by omega
    subst he
    refine Ev.step (f := fun _ => some true) (fun k => ?_) (by simpa using Ev.now true)
    simp only [plane_valid.l0]
    rw [if_neg (by omega)]
  | succ d ih =>
    intro i hd hi
    have hlt : i < l.length := by omega
    have hrd : rd_T23 l (i : Int) = l[i] := by
      simp only [rd_T23, Int.toNat_natCast, List.getD_eq_getElem?_getD, List.getElem?_eq_getElem hlt, Option.getD_some]
    have hdrop : l.drop i = l[i] :: l.drop (i + 1) := List.drop_eq_getElem_cons hlt
    have hw : wrap64 ((i : Int) + 1) = ((i + 1 : Nat) : Int) := by rw [w64 (by omega) (by omega)]; rfl
    refine Ev.step (f := fun k => if isP l[i].f0 l[i].f1 = true then plane_valid.l0 k l (l.length : Int) ((i + 1 : Nat) : Int) else some false) (fun k => ?_) ?_
    · simp only [plane_valid.l0]
      rw [if_pos (by omega), if_pos (by omega), if_pos (by omega), hrd, hw, within_eq, within_eq]
      simp only [Option.bind_some, isP]
      rcases Bool.eq_false_or_eq_true (inR l[i].f0 (-16777216) 16777216) with h | h
      · simp only [h, if_true, Bool.true_and]
      · simp [h]
    · rw [hdrop, List.all_cons]
      cases hp : isP l[i].f0 l[i].f1
      · simpa using Ev.now false
      · simpa using ih (i + 1) (by omega) (by omega)
theorem valid_ev (l : List S23) (hl : (l.length : Int) < 9223372036854775807) : Ev (fun k => plane_valid.f k l) (l.all fun p => isP p.f0 p.f1) := by
  have := valid_loop l hl l.length 0 (by omega) (by omega)
  simpa [plane_valid.f] using this
theorem valid1 (x y : Int) : Ev (fun k => plane_valid.f k [⟨x, y⟩]) (isP x y) := by simpa using valid_ev [⟨x, y⟩] (by simp)
theorem valid2 (x y u v : Int) : Ev (fun k => plane_valid.f k [⟨x, y⟩, ⟨u, v⟩]) (isP x y && isP u v) := by simpa using valid_ev [⟨x, y⟩, ⟨u, v⟩] (by simp)
theorem valid3 (x y u v s t : Int) : Ev (fun k => plane_valid.f k [⟨x, y⟩, ⟨u, v⟩, ⟨s, t⟩]) (isP x y && (isP u v && isP s t)) := by simpa using valid_ev [⟨x, y⟩, ⟨u, v⟩, ⟨s, t⟩] (by simp)

/-! ### the root -/
def IsRoot (n r : Int) : Prop := 0 ≤ r ∧ r * r ≤ n ∧ n < (r + 1) * (r + 1)
theorem IsRoot.unique {n r s : Int} (h : IsRoot n r) (k : IsRoot n s) : r = s := by
  obtain ⟨h0, h1, h2⟩ := h
  obtain ⟨k0, k1, k2⟩ := k
  have a : r < s + 1 := by
    rcases Int.lt_or_le r (s + 1) with h | h
    · exact h
    · have := Int.mul_le_mul h h (by omega) h0; omega
  have b : s < r + 1 := by
    rcases Int.lt_or_le s (r + 1) with h | h
    · exact h
    · have := Int.mul_le_mul h h (by omega) k0; omega
  omega
/-- the powers -/
def p2 (j : Nat) : Int := ((2 ^ j : Nat) : Int)
theorem p2_succ (j : Nat) : p2 (j + 1) = 2 * p2 j := by unfold p2; rw [Nat.pow_succ]; push_cast; omega
theorem p2_pos (j : Nat) : 1 ≤ p2 j := by unfold p2; have := Nat.one_le_two_pow (n := j); omega
theorem p2_add (i j : Nat) : p2 (i + j) = p2 i * p2 j := by unfold p2; rw [Nat.pow_add]; push_cast; rfl
theorem p2_mono {i j : Nat} (h : i ≤ j) : p2 i ≤ p2 j := by unfold p2; exact_mod_cast Nat.pow_le_pow_right (by omega) h
theorem shl_one (m : Nat) (h : m ≤ 62) : shl .u64 1 (m : Int) = p2 m := by
  have h1 := p2_mono h
  have h2 : p2 62 = 4611686018427387904 := by decide +kernel
  have h3 := p2_pos m
  unfold shl
  rw [Int.toNat_natCast, Nat.min_eq_left (by simp [IntKind.bits]; omega), Int.one_mul]
  rw [show (2 : Int) ^ m = p2 m by unfold p2; push_cast; rfl, wu64 (by omega) (by omega)]

/-- At the head of round 31-j (bit 4^j, j counted down by 'j+1' rounds still to go): root so far P, a multiple of 2^(j+1). -/
theorem root_loop (n : Int) (hn0 : 0 ≤ n) (hn : n ≤ 9223372036854775807) : ∀ (j : Nat) (m P : Int), j ≤ 32 → 0 ≤ m → P = m * p2 j → P * P ≤ n → n < (P + p2 j) * (P + p2 j) → P + p2 j ≤ 4294967296 →
    ∃ r, IsRoot n r ∧ Ev (fun k => plane_root.l0 k (n - P * P) (P * p2 j) ((32 - j : Nat) : Int)) r := by
  intro j
  induction j with
  | zero =>
    intro m P hj hm hP h1 h2 h3
    have h0 : p2 0 = 1 := rfl
    rw [h0] at h2 h3 hP
    have hP0 : 0 ≤ P := by omega
    refine ⟨P, ⟨hP0, h1, h2⟩, ?_⟩
    refine Ev.step (f := fun _ => some P) (fun k => ?_) (Ev.now P)
    simp only [plane_root.l0]
    rw [if_neg (by omega), h0, Int.mul_one, w64 (by omega) (by omega)]
  | succ j ih =>
    intro m P hj hm hP h1 h2 h3
    have hs := p2_succ j
    have hp := p2_pos j
    have hP0 : 0 ≤ P := by rw [hP]; exact Int.mul_nonneg hm (by omega)
    have hb : p2 (2 * j) = p2 j * p2 j := by rw [show 2 * j = j + j by omega, p2_add]
    have hbit : wrap64 (62 - wrap64 (2 * ((32 - (j + 1) : Nat) : Int))) = ((2 * j : Nat) : Int) := by
      rw [w64 (x := 2 * _) (by omega) (by omega), w64 (by omega) (by omega)]; omega
    have hsh := shl_one (2 * j) (by omega)
    have hlt : P + p2 j ≤ 4294967296 - p2 j := by omega
    have hsq : (P + p2 j) * (P + p2 j) < 18446744073709551616 := by
      have h5 : P + p2 j ≤ 4294967295 := by omega
      have := Int.mul_le_mul h5 h5 (by omega) (by omega)
      omega
    have hex : (P + p2 j) * (P + p2 j) = P * P + P * p2 (j + 1) + p2 j * p2 j := by rw [hs]; grind
    have hPP : 0 ≤ P * P := Int.mul_nonneg hP0 hP0
    have hPb : 0 ≤ P * p2 (j + 1) := Int.mul_nonneg hP0 (by omega)
    have hjj : 0 ≤ p2 j * p2 j := Int.mul_nonneg (by omega) (by omega)
    have hhalf : P * p2 (j + 1) / 2 = P * p2 j := by rw [hs, show P * (2 * p2 j) = 2 * (P * p2 j) by grind]; omega
    have hPj : 0 ≤ P * p2 j := Int.mul_nonneg hP0 (by omega)
    have hnext : P * p2 (j + 1) = 2 * (P * p2 j) := by rw [hs]; grind
    have hidx : wrap64 (((32 - (j + 1) : Nat) : Int) + 1) = ((32 - j : Nat) : Int) := by rw [w64 (by omega) (by omega)]; omega
    have hsum : IntKind.u64.wrap (P * p2 (j + 1) + p2 (2 * j)) = P * p2 (j + 1) + p2 j * p2 j := by rw [hb, wu64 (by omega) (by omega)]
    by_cases hc : n - P * P ≥ P * p2 (j + 1) + p2 j * p2 j
    · obtain ⟨r, hr, he⟩ := ih (2 * m + 1) (P + p2 j) (by omega) (by omega) (by rw [hP, hs]; grind) (by omega) (by rw [show P + p2 j + p2 j = P + p2 (j + 1) by omega]; exact h2) (by omega)
      refine ⟨r, hr, Ev.step (f := fun k => plane_root.l0 k (n - (P + p2 j) * (P + p2 j)) ((P + p2 j) * p2 j) ((32 - j : Nat) : Int)) (fun k => ?_) he⟩
      simp only [plane_root.l0]
      rw [hbit, hsh, if_pos (by omega), if_pos (by omega), hsum, if_pos hc, hidx, hhalf, hb]
      rw [wu64 (x := n - P * P - _) (by omega) (by omega), wu64 (by omega) (by omega)]
      congr 1
      · omega
      · grind
    · obtain ⟨r, hr, he⟩ := ih (2 * m) P (by omega) (by omega) (by rw [hP, hs]; grind) h1 (by omega) (by omega)
      refine ⟨r, hr, Ev.step (f := fun k => plane_root.l0 k (n - P * P) (P * p2 j) ((32 - j : Nat) : Int)) (fun k => ?_) he⟩
      simp only [plane_root.l0]
      rw [hbit, hsh, if_pos (by omega), if_pos (by omega), hsum, if_neg hc, hidx, hhalf]
theorem root_ev (n : Int) (hn0 : 0 ≤ n) (hn : n ≤ 9223372036854775807) : ∃ r, IsRoot n r ∧ Ev (fun k => plane_root.f k n) r := by
  have h32 : p2 32 = 4294967296 := by decide +kernel
  obtain ⟨r, hr, he⟩ := root_loop n hn0 hn 32 0 0 (by omega) (by omega) (by omega) (by omega) (by rw [h32]; omega) (by omega)
  refine ⟨r, hr, Ev.congr (fun k => ?_) he⟩
  unfold plane_root.f
  rw [wu64 hn0 (by omega)]
  simp

theorem sqrt_loop (n : Int) (hn0 : 0 ≤ n) (hn : n ≤ 9223372036854775807) : ∀ (j : Nat) (P : Int), j ≤ 32 → 0 ≤ P → P * P ≤ n → n < (P + p2 j) * (P + p2 j) → P ≤ 3037000499 →
    ∃ r, IsRoot n r ∧ Ev (fun k => gooseneckref01_Sqrt.l0 k n P (p2 j / 2)) r := by
  intro j
  induction j with
  | zero =>
    intro P hj hP0 h1 h2 h3
    have h0 : p2 0 = 1 := rfl
    rw [h0] at h2 ⊢
    refine ⟨P, ⟨hP0, h1, h2⟩, ?_⟩
    refine Ev.step (f := fun _ => some P) (fun k => ?_) (Ev.now P)
    simp only [gooseneckref01_Sqrt.l0]
    rw [if_neg (by omega)]
  | succ j ih =>
    intro P hj hP0 h1 h2 h3
    have hs := p2_succ j
    have hp := p2_pos j
    have hm := p2_mono (show j ≤ 31 by omega)
    have h31 : p2 31 = 2147483648 := by decide +kernel
    have hd : p2 (j + 1) / 2 = p2 j := by omega
    have ht : wrap64 (Int.tdiv (p2 j) 2) = p2 j / 2 := by rw [Int.tdiv_eq_ediv_of_nonneg (by omega), w64 (by omega) (by omega)]
    rw [hd]
    have hx : wrap64 (P + p2 j) = P + p2 j := w64 (by omega) (by omega)
    have hskip : n < (P + p2 j) * (P + p2 j) → (∀ k, gooseneckref01_Sqrt.l0 (k + 1) n P (p2 j) = gooseneckref01_Sqrt.l0 k n P (p2 j / 2)) → ∃ r, IsRoot n r ∧ Ev (fun k => gooseneckref01_Sqrt.l0 k n P (p2 j)) r := by
      intro h hk
      obtain ⟨r, hr, he⟩ := ih P (by omega) hP0 h1 h h3
      exact ⟨r, hr, Ev.step hk he⟩
    by_cases hc : P + p2 j ≤ 3037000499
    · have hsq : (P + p2 j) * (P + p2 j) ≤ 9223372036854775807 := by
        have := Int.mul_le_mul hc hc (by omega) (by omega)
        omega
      have hsq0 : 0 ≤ (P + p2 j) * (P + p2 j) := Int.mul_nonneg (by omega) (by omega)
      by_cases hc2 : (P + p2 j) * (P + p2 j) ≤ n
      · obtain ⟨r, hr, he⟩ := ih (P + p2 j) (by omega) (by omega) hc2 (by rw [show P + p2 j + p2 j = P + p2 (j + 1) by omega]; exact h2) hc
        refine ⟨r, hr, Ev.step (f := fun k => gooseneckref01_Sqrt.l0 k n (P + p2 j) (p2 j / 2)) (fun k => ?_) he⟩
        simp only [gooseneckref01_Sqrt.l0]
        rw [if_pos (by omega), hx, if_pos hc, w64 (by omega) hsq, if_pos hc2, ht]
      · refine hskip (by omega) (fun k => ?_)
        simp only [gooseneckref01_Sqrt.l0]
        rw [if_pos (by omega), hx, if_pos hc, w64 (by omega) hsq, if_neg hc2, ht]
    · refine hskip ?_ (fun k => ?_)
      · have h4 : 3037000500 ≤ P + p2 j := by omega
        have := Int.mul_le_mul h4 h4 (by omega) (by omega)
        omega
      · simp only [gooseneckref01_Sqrt.l0]
        rw [if_pos (by omega), hx, if_neg hc, ht]
theorem sqrt_ev (n : Int) (hn0 : 0 ≤ n) (hn : n ≤ 9223372036854775807) : ∃ r, IsRoot n r ∧ Ev (fun k => gooseneckref01_Sqrt.f k n) r := by
  have h32 : p2 32 = 4294967296 := by decide +kernel
  obtain ⟨r, hr, he⟩ := sqrt_loop n hn0 hn 32 0 (by omega) (by omega) (by omega) (by rw [h32]; omega) (by omega)
  rw [h32] at he
  exact ⟨r, hr, he⟩
/-- Both roots are one number. -/
theorem roots_ev (n : Int) (hn0 : 0 ≤ n) (hn : n ≤ 9223372036854775807) : ∃ r, IsRoot n r ∧ Ev (fun k => plane_root.f k n) r ∧ Ev (fun k => gooseneckref01_Sqrt.f k n) r := by
  obtain ⟨r, hr, he⟩ := root_ev n hn0 hn
  obtain ⟨s, hs, hf⟩ := sqrt_ev n hn0 hn
  obtain rfl := hr.unique hs
  exact ⟨r, hr, he, hf⟩

/-! ### rounded down, nearest -/
theorem div_of {n d q : Int} (hd : 1 ≤ d) (h1 : d * q ≤ n) (h2 : n < d * q + d) : n / d = q := by
  have e : n = (n - d * q) + d * q := by omega
  rw [e, Int.add_mul_ediv_left _ _ (by omega), Int.ediv_eq_zero_of_lt (by omega) (by omega)]
  omega
theorem div_bd (n d : Int) (hd : 1 ≤ d) : d * (n / d) ≤ n ∧ n < d * (n / d) + d := by
  have e1 := Int.mul_ediv_add_emod n d
  have e2 := Int.emod_nonneg n (show d ≠ 0 by omega)
  have e3 := Int.emod_lt_of_pos n (show 0 < d by omega)
  omega
theorem div_ge {n d b : Int} (hd : 1 ≤ d) (h : b * d ≤ n) : b ≤ n / d := (Int.le_ediv_iff_mul_le (by omega)).2 h
theorem div_lt {n d b : Int} (hd : 1 ≤ d) (h : n < b * d) : n / d < b := (Int.ediv_lt_iff_lt_mul (by omega)).2 h
theorem down_key (n d : Int) (hd : 1 ≤ d) (hn0 : -9223372036854775808 < n) (hn1 : n ≤ 9223372036854775807) : (if d = 0 then (none : Option Int) else (if (Int.tmod n d) < 0 then (some (wrap64 ((wrap64 (Int.tdiv n d)) - 1))) else (some (wrap64 (Int.tdiv n d))))) = some (n / d) := by
  rw [if_neg (by omega)]
  by_cases hneg : 0 ≤ n
  · have h1 : Int.tdiv n d = n / d := Int.tdiv_eq_ediv_of_nonneg hneg
    have h2 : Int.tmod n d = n % d := Int.tmod_eq_emod_of_nonneg hneg
    have h3 : 0 ≤ n / d := Int.ediv_nonneg hneg (by omega)
    have h4 : n / d ≤ n := Int.ediv_le_self _ hneg
    have e2 := Int.emod_nonneg n (show d ≠ 0 by omega)
    rw [h1, h2, if_neg (by omega), w64 (by omega) (by omega)]
  · obtain ⟨m, rfl⟩ : ∃ m, n = -m := ⟨-n, by omega⟩
    have h1 : Int.tdiv (-m) d = -(m / d) := by
      rw [← Int.tdiv_eq_ediv_of_nonneg (a := m) (by omega), Int.neg_tdiv]
    have h2 : Int.tmod (-m) d = -(m % d) := by
      rw [← Int.tmod_eq_emod_of_nonneg (a := m) (by omega), Int.neg_tmod]
    have f1 := Int.mul_ediv_add_emod m d
    have f2 := Int.emod_nonneg m (show d ≠ 0 by omega)
    have f3 := Int.emod_lt_of_pos m (show 0 < d by omega)
    have h3 : 0 ≤ m / d := Int.ediv_nonneg (by omega) (by omega)
    have h4 : m / d ≤ m := Int.ediv_le_self _ (by omega)
    rw [h1, h2]
    generalize hq : m / d = q at *
    generalize hr : m % d = r at *
    by_cases hz : r = 0
    · rw [if_neg (by omega), w64 (by omega) (by omega), div_of (q := -q) hd (by rw [Int.mul_neg]; omega) (by rw [Int.mul_neg]; omega)]
    · rw [if_pos (by omega), w64 (x := -q) (by omega) (by omega), w64 (by omega) (by omega), div_of (q := -q - 1) hd (by rw [Int.mul_sub, Int.mul_neg]; omega) (by rw [Int.mul_sub, Int.mul_neg]; omega)]
theorem down_eq (n d : Int) (hd : 1 ≤ d) (hn0 : -9223372036854775808 < n) (hn1 : n ≤ 9223372036854775807) : plane_down.f n d = some (n / d) := down_key n d hd hn0 hn1
theorem Down_eq (n d : Int) (hd : 1 ≤ d) (hn0 : -9223372036854775808 < n) (hn1 : n ≤ 9223372036854775807) : gooseneckref01_Down.f n d = some (n / d) := down_key n d hd hn0 hn1
/-- The nearest whole number. -/
def nearI (n d : Int) : Int := if 2 * (n - n / d * d) ≥ d then n / d + 1 else n / d
theorem near_eq (n d : Int) (hd : 1 ≤ d) (hd1 : d ≤ 4611686018427387904) (hn0 : -9223372036854775808 < n) (hn1 : n ≤ 9223372036854775806) : plane_near.f n d = some (nearI n d) := by
  have hb := div_bd n d hd
  have hm : n / d * d = d * (n / d) := Int.mul_comm _ _
  have h1 : n / d ≤ 9223372036854775806 := by
    have := div_lt (b := 9223372036854775807) hd (show n < 9223372036854775807 * d by omega); omega
  have h2 : -9223372036854775808 ≤ n / d := div_ge hd (by omega)
  unfold plane_near.f nearI
  rw [down_eq n d hd hn0 (by omega), Option.bind_some]
  by_cases hlow : -9223372036854775808 ≤ n / d * d
  · rw [w64 (x := n / d * d) hlow (by omega), w64 (x := n - _) (by omega) (by omega), w64 (x := d - _) (by omega) (by omega), w64 (x := n / d + 1) (by omega) (by omega)]
    by_cases hc : 2 * (n - n / d * d) ≥ d
    · rw [if_pos (by omega), if_pos hc]
    · rw [if_neg (by omega), if_neg hc]
  · have hw : wrap64 (n / d * d) = n / d * d + 18446744073709551616 := by unfold wrap64; omega
    have hw2 : wrap64 (n - wrap64 (n / d * d)) = n - n / d * d := by rw [hw]; unfold wrap64; omega
    rw [hw2, w64 (x := d - _) (by omega) (by omega), w64 (x := n / d + 1) (by omega) (by omega)]
    by_cases hc : 2 * (n - n / d * d) ≥ d
    · rw [if_pos (by omega), if_pos hc]
    · rw [if_neg (by omega), if_neg hc]
theorem Near_eq (n d : Int) (hd : 1 ≤ d) (hd1 : d ≤ 4611686018427387904) (hn0 : -9223372036854775808 < n) (hn1 : n ≤ 9223372036854775806) : gooseneckref01_Near.f n d = some (nearI n d) := by
  have hb := div_bd n d hd
  have hm : n / d * d = d * (n / d) := Int.mul_comm _ _
  have h1 : n / d ≤ 9223372036854775806 := by
    have := div_lt (b := 9223372036854775807) hd (show n < 9223372036854775807 * d by omega); omega
  have h2 : -9223372036854775808 ≤ n / d := div_ge hd (by omega)
  unfold gooseneckref01_Near.f nearI
  rw [Down_eq n d hd hn0 (by omega), Option.bind_some]
  have hw2 : wrap64 (n - wrap64 (n / d * d)) = n - n / d * d := by
    by_cases hlow : -9223372036854775808 ≤ n / d * d
    · rw [w64 (x := n / d * d) hlow (by omega), w64 (x := n - _) (by omega) (by omega)]
    · have hw : wrap64 (n / d * d) = n / d * d + 18446744073709551616 := by unfold wrap64; omega
      rw [hw]; unfold wrap64; omega
  rw [hw2, w64 (x := 2 * _) (by omega) (by omega), w64 (x := n / d + 1) (by omega) (by omega)]
  by_cases hc : 2 * (n - n / d * d) ≥ d
  · rw [if_pos hc, if_pos hc]
  · rw [if_neg hc, if_neg hc]
end Go.Proofs.Ytegdcnjjelgpjaa.P
namespace Go.Proofs.Ytegdcnjjelgpjaa.P
open Go.RowKit Go.Proofs.YtegdcnjjelgpjaaW.PrintWords Go.Proofs.YtegdcnjjelgpjaaW.PrintLast Go.Proofs.YtegdcnjjelgpjaaW.PrintMore

theorem Floor_both (n d : Int) : ∃ r, plane_Floor.f n d = some r ∧ gooseneckref01_Floor.f n d = some r := by
  unfold plane_Floor.f gooseneckref01_Floor.f
  simp only [within_eq, In_eq, Option.bind_some]
  by_cases h1 : inR n (-2305843009213693952) 2305843009213693952 = true
  · by_cases h2 : inR d 1 2305843009213693952 = true
    · rw [if_pos h1, if_pos h2, if_pos h1, if_pos h2]
      rw [inR_iff] at h1 h2
      rw [down_eq n d h2.1 (by omega) (by omega), Down_eq n d h2.1 (by omega) (by omega)]
      exact ⟨_, rfl, rfl⟩
    · rw [if_pos h1, if_neg h2, if_pos h1, if_neg h2]; exact ⟨_, rfl, rfl⟩
  · rw [if_neg h1, if_neg h1]; exact ⟨_, rfl, rfl⟩
theorem Nearest_both (n d : Int) : ∃ r, plane_Nearest.f n d = some r ∧ gooseneckref01_Nearest.f n d = some r := by
  unfold plane_Nearest.f gooseneckref01_Nearest.f
  simp only [within_eq, In_eq, Option.bind_some]
  by_cases h1 : inR n (-2305843009213693952) 2305843009213693952 = true
  · by_cases h2 : inR d 1 2305843009213693952 = true
    · rw [if_pos h1, if_pos h2, if_pos h1, if_pos h2]
      rw [inR_iff] at h1 h2
      rw [near_eq n d h2.1 (by omega) (by omega) (by omega), Near_eq n d h2.1 (by omega) (by omega) (by omega)]
      exact ⟨_, rfl, rfl⟩
    · rw [if_pos h1, if_neg h2, if_pos h1, if_neg h2]; exact ⟨_, rfl, rfl⟩
  · rw [if_neg h1, if_neg h1]; exact ⟨_, rfl, rfl⟩
theorem Root_both (n : Int) (hn : n ≤ 9223372036854775807) : ∃ r, Ev (fun k => plane_Root.f k n) r ∧ Ev (fun k => gooseneckref01_Root.f k n) r := by
  by_cases h : n < 0
  · exact ⟨(0, 2), Ev.congr (fun k => by rw [plane_Root.f, if_pos h]) (Ev.now _), Ev.congr (fun k => by rw [gooseneckref01_Root.f, if_pos h]) (Ev.now _)⟩
  · obtain ⟨r, _, h1, h2⟩ := roots_ev n (by omega) hn
    exact ⟨(r, 0), Ev.congr (fun k => by rw [plane_Root.f, if_neg h]) (Ev.bind h1 (Ev.now _)), Ev.congr (fun k => by rw [gooseneckref01_Root.f, if_neg h]) (Ev.bind h2 (Ev.now _))⟩
theorem Turn_both (a b c d e f : Int) : ∃ r, Ev (fun k => plane_Turn.f k a b c d e f) r ∧ gooseneckref01_Turn.f a b c d e f = some r := by
  unfold gooseneckref01_Turn.f
  simp only [Is_eq, Option.bind_some]
  have hv := valid3 a b c d e f
  by_cases h : (isP a b && (isP c d && isP e f)) = true
  · rw [h] at hv
    simp only [Bool.and_eq_true] at h
    rw [if_pos h.1, if_pos h.2.1, if_pos h.2.2]
    generalize hx : (wrap64 ((wrap64 ((wrap64 (c - a)) * (wrap64 (f - b)))) - (wrap64 ((wrap64 (d - b)) * (wrap64 (e - a)))))) = x
    have h1 : ∃ s, gooseneckref01_Sign.f a b c d e f = some s ∧ cmp_Compare_84.f x 0 = some s := by
      unfold gooseneckref01_Sign.f cmp_Compare_84.f cmp_isNaN_107.f
      rw [hx]
      by_cases p : x > 0
      · rw [if_pos p]; exact ⟨1, rfl, by simp [show ¬ x < 0 by omega, p]⟩
      · rw [if_neg p]
        by_cases q : x < 0
        · rw [if_pos q]; exact ⟨-1, rfl, by simp [q]⟩
        · rw [if_neg q]; exact ⟨0, rfl, by simp [q, p]⟩
    obtain ⟨s, hs, hc⟩ := h1
    rw [hs]
    refine ⟨(s, 0), ?_, rfl⟩
    unfold plane_Turn.f
    refine Ev.bind hv ?_
    refine Ev.congr (f := fun _ => some (s, 0)) (fun k => ?_) (Ev.now _)
    rw [if_pos rfl, plane_cross.f, hx, Option.bind_some, hc, Option.bind_some]
  · have hf : (isP a b && (isP c d && isP e f)) = false := by simpa using h
    rw [hf] at hv
    refine ⟨(0, 2), ?_, ?_⟩
    · unfold plane_Turn.f
      exact Ev.bind hv (Ev.congr (fun k => by rw [if_neg (by simp)]) (Ev.now _))
    · by_cases h1 : isP a b = true
      · rw [if_pos h1]
        by_cases h2 : isP c d = true
        · rw [if_pos h2, if_neg (by intro h3; simp [h1, h2, h3] at hf)]
        · rw [if_neg h2]
      · rw [if_neg h1]
theorem Check_both (a b : Int) : ∃ r, Ev (fun k => plane_Check.f k a b) r ∧ gooseneckref01_Check.f a b = some r := by
  unfold gooseneckref01_Check.f plane_Check.f
  rw [Is_eq, Option.bind_some]
  have hv := valid1 a b
  cases h : isP a b
  · rw [h] at hv
    exact ⟨2, Ev.bind hv (Ev.congr (fun k => by rw [if_neg (by simp)]) (Ev.now _)), rfl⟩
  · rw [h] at hv
    exact ⟨0, Ev.bind hv (Ev.congr (fun k => by rw [if_pos rfl]) (Ev.now _)), rfl⟩
/-- The distances of points of moderate size. -/
theorem far_both (a b c d B : Int) (hB : 0 ≤ B) (hB1 : B ≤ 1000000000) (h1 : -B ≤ c - a) (h2 : c - a ≤ B) (h3 : -B ≤ d - b) (h4 : d - b ≤ B) :
    ∃ r, IsRoot ((c - a) * (c - a) + (d - b) * (d - b)) r ∧ Ev (fun k => plane_far.f k a b c d) r ∧ Ev (fun k => gooseneckref01_Far.f k a b c d) r := by
  have key : ∀ x : Int, -B ≤ x → x ≤ B → 0 ≤ x * x ∧ x * x ≤ 1000000000000000000 := by
    intro x hx hy
    have h0 : 0 ≤ x * x := by
      rcases Int.le_total 0 x with h | h
      · exact Int.mul_nonneg h h
      · exact Int.mul_nonneg_of_nonpos_of_nonpos h h
    refine ⟨h0, ?_⟩
    rcases Int.le_total 0 x with h | h
    · have := Int.mul_le_mul (show x ≤ 1000000000 by omega) (show x ≤ 1000000000 by omega) h (by omega)
      omega
    · have := Int.mul_le_mul (show -x ≤ 1000000000 by omega) (show -x ≤ 1000000000 by omega) (by omega) (by omega)
      rw [Int.neg_mul_neg] at this
      omega
  obtain ⟨p0, p1⟩ := key (c - a) h1 h2
  obtain ⟨q0, q1⟩ := key (d - b) h3 h4
  obtain ⟨r, hr, e1, e2⟩ := roots_ev ((c - a) * (c - a) + (d - b) * (d - b)) (by omega) (by omega)
  have hw : wrap64 (wrap64 (wrap64 (c - a) * wrap64 (c - a)) + wrap64 (wrap64 (d - b) * wrap64 (d - b))) = (c - a) * (c - a) + (d - b) * (d - b) := by
    rw [w64 (x := c - a) (by omega) (by omega), w64 (x := d - b) (by omega) (by omega), w64 (x := (c - a) * (c - a)) (by omega) (by omega), w64 (x := (d - b) * (d - b)) (by omega) (by omega), w64 (by omega) (by omega)]
  refine ⟨r, hr, ?_, ?_⟩
  · unfold plane_far.f
    rw [hw]
    exact Ev.bind e1 (Ev.now _)
  · unfold gooseneckref01_Far.f
    rw [hw]
    exact Ev.bind e2 (Ev.now _)
theorem Distance_both (a b c d : Int) : ∃ r, Ev (fun k => plane_Distance.f k a b c d) r ∧ Ev (fun k => gooseneckref01_Distance.f k a b c d) r := by
  unfold gooseneckref01_Distance.f plane_Distance.f
  simp only [Is_eq, Option.bind_some]
  have hv := valid2 a b c d
  by_cases h : (isP a b && isP c d) = true
  · rw [h] at hv
    simp only [Bool.and_eq_true] at h
    have ha := isP_iff.1 h.1
    have hb := isP_iff.1 h.2
    obtain ⟨r, _, e1, e2⟩ := far_both a b c d 33554432 (by omega) (by omega) (by omega) (by omega) (by omega) (by omega)
    refine ⟨(r, 0), Ev.bind hv (Ev.congr (fun k => by rw [if_pos rfl]) (Ev.bind e1 (Ev.now _))), Ev.congr (fun k => by rw [if_pos h.1, if_pos h.2]) (Ev.bind e2 (Ev.now _))⟩
  · have hf : (isP a b && isP c d) = false := by simpa using h
    rw [hf] at hv
    refine ⟨(0, 2), Ev.bind hv (Ev.congr (fun k => by rw [if_neg (by simp)]) (Ev.now _)), Ev.congr (fun k => ?_) (Ev.now _)⟩
    by_cases h1 : isP a b = true
    · rw [if_pos h1, if_neg (by intro h3; simp [h1, h3] at hf)]
    · rw [if_neg h1]

end Go.Proofs.Ytegdcnjjelgpjaa.P
namespace Go.Proofs.Ytegdcnjjelgpjaa.P
open Go.RowKit Go.Proofs.YtegdcnjjelgpjaaW.PrintWords Go.Proofs.YtegdcnjjelgpjaaW.PrintLast Go.Proofs.YtegdcnjjelgpjaaW.PrintMore

theorem PlaneNumbers_pure : PlaneNumbers_Pure := by
  intro n d ⟨a, b⟩ ⟨c, e⟩ ⟨f, g⟩ wn _ _ _ _
  have hn := (wf_i64 wn).2
  show ∃ k, goosenecklaw01_PlaneNumbers.f k n d a b c e f g = some true
  obtain ⟨r1, h1, h1'⟩ := Floor_both n d
  obtain ⟨r2, h2, h2'⟩ := Nearest_both n d
  obtain ⟨r3, h3, h3'⟩ := Root_both n hn
  obtain ⟨r4, h4, h4'⟩ := Turn_both a b c e f g
  obtain ⟨r5, h5, h5'⟩ := Check_both a b
  obtain ⟨r6, h6, h6'⟩ := Distance_both a b c e
  refine Ev.rounds (g := fun k => goosenecklaw01_PlaneNumbers.f k n d a b c e f g) ?_
  unfold goosenecklaw01_PlaneNumbers.f
  simp only [h1, h1', Option.bind_some, if_true, bne_self_eq_false]
  refine Ev.step (fun k => by rw [goosenecklaw01_PlaneNumbers.j0]) ?_
  simp only [h2, h2', Option.bind_some, if_true, bne_self_eq_false, Bool.false_eq_true, if_false]
  refine Ev.step (fun k => by rw [goosenecklaw01_PlaneNumbers.j1]) ?_
  simp only [Bool.false_eq_true, if_false]
  refine Ev.bind h3 (Ev.bind h3' (Ev.bind h4 ?_))
  simp only [h4', Option.bind_some, if_true]
  refine Ev.bind h5 ?_
  simp only [h5', Option.bind_some, bne_self_eq_false]
  refine Ev.step (fun k => by rw [goosenecklaw01_PlaneNumbers.j2]) ?_
  simp only [Bool.false_eq_true, if_false]
  refine Ev.bind h6 (Ev.bind h6' ?_)
  simp only [if_true]
  exact Ev.bind works_ev (Ev.now _)
end Go.Proofs.Ytegdcnjjelgpjaa.P
namespace Go.Proofs.Ytegdcnjjelgpjaa.planeNumbers
open Go.ChangeShapes Go.WideShapes Go.ChangeAt Go.RowKit Go.Proofs.Ytegdcnjjelgpjaa.P
open Go.Proofs.YtegdcnjjelgpjaaW.PrintWords Go.Proofs.YtegdcnjjelgpjaaW.PrintLast Go.Proofs.YtegdcnjjelgpjaaW.PrintMore
open Go.ChangeMaps (open_string shut_string)
set_option linter.unusedVariables false
theorem own : ownKnob Try.prog.godebug = none := by kernel_rfl
theorem laidOut : laidOutB Try.prog = true := by kernel_rfl
set_option maxRecDepth 100000 in
theorem lifted (os : Os) (started : os.Started) (H : Type) (enc : TypeId × Value → H) :
    ReturnsInHanded {} Try.checked os 6 .any (Rows.planeNumbersSpec.pre6 enc Try.prog Try.f6 Rows.planeNumbersRow.domain false) (Rows.planeNumbersSpec.post enc Try.prog Try.f6 false true false false) := by
  refine returnsInHanded_of_change_sized (C := Try.checked) own started (by kernel_rfl) Try.func6
    (ChangeSpec.witness6 (enc := enc) (C := Try.checked) false ⟨#[], #[.int .i64 0, .int .i64 0, .agg #[.int .i64 0, .int .i64 0], .agg #[.int .i64 0, .int .i64 0], .agg #[.int .i64 0, .int .i64 0]], []⟩ 8 (by kernel_rfl) (by kernel_rfl) (by kernel_rfl) (by kernel_rfl)) ?_
  intro W base args ds gs before hval0 hW hcnd hsz0 _
  have hval : ∀ (j : Nat) t v, Try.f6.params[j]? = some t → args[j]? = some v → Value.okWide Try.prog W .any base t v := hval0
  have hW' := hW
  obtain ⟨p, q, hA0, hV, rfl, hfz, hnd⟩ := hW
  have hA : DataW.TrodAll enc Try.prog W 0 (fun _ => true) true Try.f6.params.toList args.toList ds p := hA0
  rw [Try.params6] at hA hval
  obtain ⟨v0, vs0, d0, ds0, p0, q0, hargs, rfl, rfl, h0, r0⟩ := trodAll_cons hA
  obtain ⟨v1, vs1, d1, ds1, p1, q1, rfl, rfl, rfl, h1, r1⟩ := trodAll_cons r0
  obtain ⟨v2, vs2, d2, ds2, p2, q2, rfl, rfl, rfl, h2, r2⟩ := trodAll_cons r1
  obtain ⟨v3, vs3, d3, ds3, p3, q3, rfl, rfl, rfl, h3, r3⟩ := trodAll_cons r2
  obtain ⟨v4, vs4, d4, ds4, p4, q4, rfl, rfl, rfl, h4, r4⟩ := trodAll_cons r3
  obtain ⟨rfl, rfl, rfl⟩ := trodAll_nil r4
  obtain rfl : args = #[v0, v1, v2, v3, v4] := by cases args; simp_all
  obtain ⟨rfl, rfl⟩ := trodVars_none hV
  obtain ⟨a0, rfl, rfl, rfl, w0⟩ := open_int Try.underlying2 (hval 0 2 v0 rfl rfl) h0
  obtain ⟨a1, rfl, rfl, rfl, w1⟩ := open_int Try.underlying2 (hval 1 2 v1 rfl rfl) h1
  have k2 := h2
  have lt2 : ∀ x ∈ p2, x.block < W.heap.size := by obtain ⟨m, hm⟩ := k2; exact DataW.trod_lt m _ _ _ hm
  obtain ⟨cs2, rfl, hz2⟩ := okWide_struct Try.underlying23 (hval 2 23 v2 rfl rfl)
  obtain ⟨f2, hf2⟩ := h2
  obtain ⟨x2, hK2, w2⟩ := opens23 H enc W _ _ _ _ _ _ hf2
  have e2 := k23_open hK2
  obtain rfl : cs2 = #[.int .i64 x2.f0, .int .i64 x2.f1] := by apply Array.toList_inj.1; simpa [Value.cells] using e2
  have k3 := h3
  have lt3 : ∀ x ∈ p3, x.block < W.heap.size := by obtain ⟨m, hm⟩ := k3; exact DataW.trod_lt m _ _ _ hm
  obtain ⟨cs3, rfl, hz3⟩ := okWide_struct Try.underlying23 (hval 3 23 v3 rfl rfl)
  obtain ⟨f3, hf3⟩ := h3
  obtain ⟨x3, hK3, w3⟩ := opens23 H enc W _ _ _ _ _ _ hf3
  have e3 := k23_open hK3
  obtain rfl : cs3 = #[.int .i64 x3.f0, .int .i64 x3.f1] := by apply Array.toList_inj.1; simpa [Value.cells] using e3
  have k4 := h4
  have lt4 : ∀ x ∈ p4, x.block < W.heap.size := by obtain ⟨m, hm⟩ := k4; exact DataW.trod_lt m _ _ _ hm
  obtain ⟨cs4, rfl, hz4⟩ := okWide_struct Try.underlying23 (hval 4 23 v4 rfl rfl)
  obtain ⟨f4, hf4⟩ := h4
  obtain ⟨x4, hK4, w4⟩ := opens23 H enc W _ _ _ _ _ _ hf4
  have e4 := k23_open hK4
  obtain rfl : cs4 = #[.int .i64 x4.f0, .int .i64 x4.f1] := by apply Array.toList_inj.1; simpa [Value.cells] using e4
  clear hA0 hval0 hsz0
  obtain ⟨k, hk⟩ := PlaneNumbers_pure a0 a1 x2 x3 x4 w0 w1 w2 w3 w4
  refine (goosenecklaw01_PlaneNumbers.calls k a0 a1 x2.f0 x2.f1 x3.f0 x3.f1 x4.f0 x4.f1 true W  hk).mono fun e W' ⟨he, bel⟩ => ?_
  subst he
  exact ⟨_, rfl, _, _, _, [], _, [], hW', trodAll_mk1 (shut_bool Try.underlying4 _), (trodAll_cons_mk (shut_int Try.underlying2 w0) (trodAll_cons_mk (shut_int Try.underlying2 w1) (trodAll_cons_mk (Below.trod laidOut (by kernel_rfl) (of_decide_eq_true (by kernel_rfl)) k2 bel lt2) (trodAll_cons_mk (Below.trod laidOut (by kernel_rfl) (of_decide_eq_true (by kernel_rfl)) k3 bel lt3) (trodAll_cons_mk (Below.trod laidOut (by kernel_rfl) (of_decide_eq_true (by kernel_rfl)) k4 bel lt4) trodAll_mk0))))), rfl, bel.frame _, fun h => by cases h⟩
theorem over : Rows.planeNumbersRow.holds Try.pinned (OpenSpec.ofChange Rows.planeNumbersSpec) :=
  OpenClaim.holds_of_wide 6 Try.f6 rfl rfl rfl rfl rfl rfl rfl ⟨rfl, rfl, rfl, rfl, rfl⟩ rfl rfl rfl rfl rfl (by kernel_rfl) Try.func6 (by kernel_rfl)
    (of_decide_eq_true (by kernel_rfl)) (by unfold Func.isWrapper; first | (rw [if_pos (by decide +kernel)]; kernel_rfl) | (rw [if_neg (by decide +kernel)]; exact ⟨rfl, rfl⟩))
    (fun os started H enc _ => lifted os started H enc)
theorem proved : Rows.PlaneNumbersSaid := over
#print axioms proved
end Go.Proofs.Ytegdcnjjelgpjaa.planeNumbers
namespace Go.Proofs.Ytegdcnjjelgpjaa
/-- The row, under a short name, for the claim. -/
theorem planeNumbers_holds : Rows.PlaneNumbersSaid := planeNumbers.proved
end Go.Proofs.Ytegdcnjjelgpjaa
