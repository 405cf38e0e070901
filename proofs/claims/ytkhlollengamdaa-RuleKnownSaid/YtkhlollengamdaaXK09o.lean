/- What is proved: contracts of functions that the law calls, and of the law itself, over any heap. Conditions stand in each theorem. -/
import Derived.Test.YtkhlollengamdaaXK09n
set_option linter.unusedSimpArgs false
set_option linter.unusedVariables false
namespace Go.Proofs.Ytkhlollengamdaa
open Go.Oct Go.Oct.L09
theorem cut_six {a : Ad} {n : Int} {p : Pf} (hr : a.right = true) (h : cut a n = p) : a.six = p.a.six := by
  rw [← h]; unfold cut; rw [if_pos hr]
theorem zP_right : zP.right = true := by decide +kernel
def suits (p : Pf) (v : Int) : Bool := p.right && (p.none || (decide (v = 0) || (decide (v = 6) == p.a.six)))
theorem suits_pok {r : Ru} (hv : verok r = true) (p : Pf) : suits p r.ver = r.pok p := by
  unfold suits Ru.pok Pf.ver
  unfold verok at hv
  simp only [Bool.or_eq_true, decide_eq_true_eq] at hv
  congr 2
  rcases hv with h | h | h
  · rw [h]; rfl
  · rw [h]
    cases p.a.six <;> rfl
  · rw [h]
    cases p.a.six <;> rfl
section
variable {h : H} {k : Value → H → Prop}
/-- the reference's RightPrefix -/
theorem c75 {p : Pf} (o : p.ok) (hk : ∀ h', Go.Oct.Ext h h' → k (.bool p.right) h') : callK Try.prog 75 #[.agg p.cells.toArray] h k := by
  refine call75 _ _ _ ?_
  unfold d75
  refine alloc_new fun p1 g1 y1 b1 x1 => draw_ext ?_
  refine addrK_of rfl ((At.pa b1.at_ rfl).loadSN (Ad.len17 o.a) ?_)
  refine c77 o.a fun g2 x2 => asB_of ⟨x2, ?_⟩
  have x12 := x1.trans x2
  unfold Pf.right at hk
  refine ifB_of (fun h1 => ?_) (fun h1 => ?_)
  · rw [h1, Bool.true_and] at hk
    refine addrK_of rfl ((At.pa b1.at_ rfl).loadSN (Ad.len17 o.a) ?_)
    refine addrK_of rfl ((At.pn o b1.at_ rfl).loadS1 0 rfl rfl (asI_of ?_))
    refine b1.at_.loadSN (Pf.len18 o) ?_
    refine c78 o.a o.n fun g3 x3 => asA_of (by simpa using Pf.len18 (cut_ok o.a p.n)) ⟨x2.trans x3, ?_⟩
    exact eq86 _ _ (cut_ok o.a p.n) o (hk g3 (x12.trans x3))
  · rw [h1, Bool.false_and] at hk
    exact hk g2 x12
/-- Cmp -/
theorem c76 {a c : Ad} (oa : a.ok) (oc : c.ok) (hk : ∀ r : Int, (r = 0 ↔ a = c) → ∀ h', Go.Oct.Ext h h' → k (.int .i64 r) h') : callK Try.prog 76 #[.agg a.cells.toArray, .agg c.cells.toArray] h k := by
  refine call76 _ _ _ _ ?_
  unfold d76
  refine alloc_new fun p2 g1 y2 b2 x1 => alloc_new fun p3 g2 y3 b3 x2 => ?_
  have k2 := b2.ext x2
  have x12 := x1.trans x2
  refine addrK_of rfl ((At.asix k2.at_).load1 0 rfl rfl (asB_of ?_))
  refine addrK_of rfl ((At.asix b3.at_).load1 0 rfl rfl (asB_of ?_))
  refine ifB_of (fun h1 => ?_) (fun h1 => ?_)
  · have hne : a.six ≠ c.six := by simpa using h1
    refine addrK_of rfl ((At.asix b3.at_).load1 0 rfl rfl (asB_of ?_))
    refine ifB_of (fun _ => ?_) (fun _ => ?_)
    · exact hk (-1) ⟨fun h => absurd h (by decide), fun h => absurd (by rw [h]) hne⟩ g2 x12
    · exact hk 1 ⟨fun h => absurd h (by decide), fun h => absurd (by rw [h]) hne⟩ g2 x12
  · have he : a.six = c.six := by simpa using h1
    have la := oa.len
    have lc := oc.len
    refine ⟨fun x4 x5 g => g = g2 ∧ ∃ j : Nat, x5 = j ∧ j ≤ 16 ∧ ∀ i, i < j → a.b[i]? = c.b[i]?, fun x4 x5 g => (16 - x5).toNat, ⟨rfl, 0, rfl, by omega, fun i hi => by omega⟩, ?_⟩
    rintro x4 x5 g ⟨rfl, j, rfl, hj, hall⟩
    refine ifB_dec (fun hlt => draw_ext ?_) (fun hge => ?_)
    · obtain ⟨v, hv⟩ : ∃ v, a.b[j]? = some v := ⟨_, List.getElem?_eq_getElem (by omega)⟩
      obtain ⟨w, hw⟩ : ∃ w, c.b[j]? = some w := ⟨_, List.getElem?_eq_getElem (by omega)⟩
      have eq1 : 0 + 1 + Int.toNat (j : Int) * 1 = 1 + j := by rw [Int.toNat_natCast]; omega
      have lda : ∀ {k : Value → Prop}, k (bf v) → addrK (some ⟨p2, 0, none⟩) 1 (fun p18 => indexK 1 p18 16 (j : Int) (fun p19 => Go.Oct.loadS1 (fun g' => Go.Oct.Ext g g') p19 k)) := by
        intro k hk
        refine addrK_of rfl ?_
        rw [indexK_some]
        refine ⟨by omega, by omega, ?_⟩
        rw [eq1]
        exact (At.aby k2.at_ rfl).loadS1 j rfl (by rw [List.getElem?_map, hv]; rfl) hk
      have ldc : ∀ {k : Value → Prop}, k (bf w) → addrK (some ⟨p3, 0, none⟩) 1 (fun p18 => indexK 1 p18 16 (j : Int) (fun p19 => Go.Oct.loadS1 (fun g' => Go.Oct.Ext g g') p19 k)) := by
        intro k hk
        refine addrK_of rfl ?_
        rw [indexK_some]
        refine ⟨by omega, by omega, ?_⟩
        rw [eq1]
        exact (At.aby b3.at_ rfl).loadS1 j rfl (by rw [List.getElem?_map, hw]; rfl) hk
      refine lda (asI_of (ldc (asI_of ?_)))
      have hne : v ≠ w → a ≠ c := by
        intro h1 h2
        rw [h2, hw] at hv
        cases hv
        exact h1 rfl
      refine ifB_dec (fun h2 => ?_) (fun h2 => draw_ext ?_)
      · exact hk (-1) ⟨fun h => absurd h (by decide), fun h => absurd h (hne (by omega))⟩ g x12
      refine lda (asI_of (ldc (asI_of ?_)))
      refine ifB_dec (fun h3 => ?_) (fun h3 => ?_)
      · exact hk 1 ⟨fun h => absurd h (by decide), fun h => absurd h (hne (by omega))⟩ g x12
      have hvw : v = w := by omega
      refine ⟨⟨rfl, j + 1, wrap64_id (by omega) (by omega), by omega, fun i hi => ?_⟩, ?_⟩
      · rcases Nat.lt_or_ge i j with h4 | h4
        · exact hall i h4
        · have : i = j := by omega
          rw [this, hv, hw, hvw]
      · rw [wrap64_id (by omega) (by omega)]; dsimp only; omega
    · refine hk 0 ⟨fun _ => ?_, fun _ => rfl⟩ g x12
      obtain ⟨s, b⟩ := a
      obtain ⟨s', b'⟩ := c
      simp only [Ad.mk.injEq]
      refine ⟨he, ?_⟩
      apply List.ext_getElem?
      intro i
      by_cases h16 : i < 16
      · exact hall i (by omega)
      · rw [List.getElem?_eq_none (by simp only at la; omega), List.getElem?_eq_none (by simp only at lc; omega)]
/-- the reference's none -/
theorem c69 {p : Pf} (o : p.ok) (hk : ∀ h', Go.Oct.Ext h h' → k (.bool p.none) h') : callK Try.prog 69 #[.agg p.cells.toArray] h k := by
  refine call69 _ _ _ ?_
  unfold d69
  refine alloc_new fun p1 g1 y1 b1 x1 => ?_
  unfold Pf.none at hk
  refine addrK_of rfl ((At.pn o b1.at_ rfl).load1 0 rfl rfl (asI_of ?_))
  refine ifB_eq (fun h1 => ?_) (fun h1 => ?_)
  · refine addrK_of rfl (addrK_of rfl ((At.asix (At.pa b1.at_ rfl)).load1 0 rfl rfl (asB_of ?_)))
    refine ifB_of (fun h2 => ?_) (fun h2 => ?_)
    · refine b1.at_.loadN (Pf.len18 o) ?_
      refine c75 o fun g2 x2 => asB_of ?_
      refine ifB_of (fun h3 => ?_) (fun h3 => ?_)
      · refine addrK_of rfl ((At.pa (b1.ext x2).at_ rfl).loadN (Ad.len17 o.a) ?_)
        refine (show callK Try.prog 76 #[.agg p.a.cells.toArray, .agg zA.cells.toArray] g2 _ from c76 o.a zA_ok fun r hr g3 x3 => asI_of ?_)
        have e : (r == 0) = decide (p = zP) := by
          rw [beq_dec, decide_eq_decide, hr]
          obtain ⟨a, n⟩ := p
          simp only [zP, Pf.mk.injEq]
          simp only at h1
          exact ⟨fun h => ⟨h, h1⟩, fun h => h.1⟩
        rw [e]
        exact hk g3 (x1.trans (x2.trans x3))
      · have e : decide (p = zP) = false := decide_eq_false (fun h => by rw [h, zP_right] at h3; cases h3)
        rw [e] at hk
        exact hk g2 (x1.trans x2)
    · have e : decide (p = zP) = false := decide_eq_false (fun h => by rw [h] at h2; exact absurd h2 (by decide))
      rw [e] at hk
      exact hk g1 x1
  · have e : decide (p = zP) = false := decide_eq_false (fun h => by rw [h] at h1; exact absurd rfl h1)
    rw [e] at hk
    exact hk g1 x1
/-- the reference's Has -/
theorem c70 {p : Pf} (o : p.ok) {a : Ad} (oa : a.ok) (hk : ∀ h', Go.Oct.Ext h h' → k (.bool (p.has a)) h') : callK Try.prog 70 #[.agg p.cells.toArray, .agg a.cells.toArray] h k := by
  refine call70 _ _ _ _ ?_
  unfold d70
  refine alloc_new fun p2 g1 y2 b2 x1 => alloc_new fun p3 g2 y3 b3 x2 => draw_ext ?_
  have k2 := b2.ext x2
  have x12 := x1.trans x2
  refine k2.at_.loadSN (Pf.len18 o) ?_
  refine c75 o fun g3 x3 => asB_of ⟨x3, ?_⟩
  unfold Pf.has at hk
  refine ifB_of (fun h1 => ?_) (fun h1 => ?_)
  · rw [h1, Bool.true_and] at hk
    refine b3.at_.loadSN (Ad.len17 oa) ?_
    refine c77 oa fun g4 x4 => asB_of ⟨x3.trans x4, ?_⟩
    have x34 := x3.trans x4
    refine ifB_of (fun h2 => ?_) (fun h2 => ?_)
    · rw [h2, Bool.true_and] at hk
      refine addrK_of rfl ((At.asix b3.at_).loadS1 0 rfl rfl (asB_of ?_))
      refine addrK_of rfl (addrK_of rfl ((At.asix (At.pa k2.at_ rfl)).loadS1 0 rfl rfl (asB_of ?_)))
      refine ifB_of (fun h3 => ?_) (fun h3 => ?_)
      · refine b3.at_.loadSN (Ad.len17 oa) ?_
        refine addrK_of rfl ((At.pn o k2.at_ rfl).loadS1 0 rfl rfl (asI_of ?_))
        refine k2.at_.loadSN (Pf.len18 o) ?_
        refine c78 oa o.n fun g5 x5 => asA_of (by simpa using Pf.len18 (cut_ok oa p.n)) ⟨x34.trans x5, ?_⟩
        exact eq86 _ _ (cut_ok oa p.n) o (hk g5 (x12.trans (x34.trans x5)))
      · have hne : a.six ≠ p.a.six := by simpa using h3
        rw [decide_eq_false (fun h => hne (cut_six h2 h))] at hk
        exact hk g4 (x12.trans x34)
    · rw [h2, Bool.false_and] at hk
      exact hk g4 (x12.trans x34)
  · rw [h1, Bool.false_and] at hk
    exact hk g3 (x12.trans x3)
/-- the reference's Within -/
theorem c79 {p q : Pf} (o : p.ok) (oq : q.ok) (hk : ∀ h', Go.Oct.Ext h h' → k (.bool (within p q)) h') : callK Try.prog 79 #[.agg p.cells.toArray, .agg q.cells.toArray] h k := by
  refine call79 _ _ _ _ ?_
  unfold d79
  refine alloc_new fun p2 g1 y2 b2 x1 => alloc_new fun p3 g2 y3 b3 x2 => ?_
  have k2 := b2.ext x2
  have x12 := x1.trans x2
  refine k2.at_.loadN (Pf.len18 o) ?_
  refine c75 o fun g3 x3 => asB_of ?_
  unfold within at hk
  refine ifB_of (fun h1 => ?_) (fun h1 => ?_)
  · rw [h1, Bool.true_and] at hk
    refine addrK_of rfl ((At.pn o (k2.ext x3).at_ rfl).load1 0 rfl rfl (asI_of ?_))
    refine addrK_of rfl ((At.pn oq (b3.ext x3).at_ rfl).load1 0 rfl rfl (asI_of ?_))
    refine ifB_dec (fun h2 => ?_) (fun h2 => ?_)
    · rw [decide_eq_true h2, Bool.true_and] at hk
      refine (b3.ext x3).at_.loadN (Pf.len18 oq) ?_
      refine addrK_of rfl ((At.pa (k2.ext x3).at_ rfl).loadN (Ad.len17 o.a) ?_)
      exact c70 oq o.a fun g4 x4 => asB_of (hk g4 (x12.trans (x3.trans x4)))
    · rw [decide_eq_false h2, Bool.false_and] at hk
      exact hk g3 (x12.trans x3)
  · rw [h1, Bool.false_and] at hk
    exact hk g3 (x12.trans x3)
/-- the reference's holds -/
theorem c74 {p q : Pf} (o : p.ok) (oq : q.ok) (hk : ∀ h', Go.Oct.Ext h h' → k (.bool (prefixed p q)) h') : callK Try.prog 74 #[.agg p.cells.toArray, .agg q.cells.toArray] h k := by
  refine call74 _ _ _ _ ?_
  unfold d74
  refine alloc_new fun p2 g1 y2 b2 x1 => alloc_new fun p3 g2 y3 b3 x2 => ?_
  have k2 := b2.ext x2
  have x12 := x1.trans x2
  refine k2.at_.loadN (Pf.len18 o) ?_
  refine c69 o fun g3 x3 => asB_of ?_
  unfold prefixed at hk
  refine ifB_of (fun h1 => ?_) (fun h1 => ?_)
  · rw [h1, Bool.true_or] at hk
    exact hk g3 (x12.trans x3)
  · rw [h1, Bool.false_or] at hk
    refine (b3.ext x3).at_.loadN (Pf.len18 oq) ?_
    refine c69 oq fun g4 x4 => asB_of ?_
    refine ifB_of (fun h2 => ?_) (fun h2 => ?_)
    · rw [h2, Bool.true_and] at hk
      refine (b3.ext (x3.trans x4)).at_.loadN (Pf.len18 oq) ?_
      refine (k2.ext (x3.trans x4)).at_.loadN (Pf.len18 o) ?_
      exact c79 oq o fun g5 x5 => asB_of (hk g5 (x12.trans (x3.trans (x4.trans x5))))
    · rw [h2, Bool.false_and] at hk
      exact hk g4 (x12.trans (x3.trans x4))
/-- suits -/
theorem c68 {p : Pf} (o : p.ok) (v : Int) (hk : ∀ h', Go.Oct.Ext h h' → k (.bool (suits p v)) h') : callK Try.prog 68 #[.agg p.cells.toArray, .int .i64 v] h k := by
  refine call68 _ _ _ _ ?_
  unfold d68
  refine alloc_new fun p2 g1 y2 b2 x1 => ?_
  refine b2.at_.loadN (Pf.len18 o) ?_
  refine c75 o fun g2 x2 => asB_of ?_
  unfold suits at hk
  refine ifB_of (fun h1 => ?_) (fun h1 => ?_)
  · rw [h1, Bool.true_and] at hk
    refine (b2.ext x2).at_.loadN (Pf.len18 o) ?_
    refine c69 o fun g3 x3 => asB_of ?_
    have x13 := x1.trans (x2.trans x3)
    refine ifB_of (fun h2 => ?_) (fun h2 => ?_)
    · rw [h2, Bool.true_or] at hk
      exact hk g3 x13
    rw [h2, Bool.false_or] at hk
    refine ifB_eq (fun h3 => ?_) (fun h3 => ?_)
    · rw [decide_eq_true h3, Bool.true_or] at hk
      exact hk g3 x13
    rw [decide_eq_false h3, Bool.false_or] at hk
    refine addrK_of rfl (addrK_of rfl ((At.asix (At.pa (b2.ext (x2.trans x3)).at_ rfl)).load1 0 rfl rfl (asB_of ?_)))
    rw [beq_dec]
    exact hk g3 x13
  · rw [h1, Bool.false_and] at hk
    exact hk g2 (x1.trans x2)
/-- ports -/
theorem c71 (lo hi n : Int) (y : Ky) (hk : k (.bool (ported lo hi y n)) h) : callK Try.prog 71 #[.int .u16 lo, .int .u16 hi, .int .u16 n, .int .u8 y.pro] h k := by
  refine call71 _ _ _ _ _ _ ?_
  unfold d71
  unfold ported at hk
  refine ⟨fun b g => g = h ∧ b = (decide (lo = 0) && decide (hi = 65535)), ?_, ?_⟩
  · refine ifB_eq (fun h1 => ⟨rfl, ?_⟩) (fun h1 => ⟨rfl, ?_⟩)
    · rw [beq_dec, decide_eq_true h1, Bool.true_and]
    · rw [decide_eq_false h1, Bool.false_and]
  rintro b g ⟨rfl, rfl⟩
  refine ifB_of (fun h1 => ?_) (fun h1 => ?_)
  · rw [h1, Bool.true_or] at hk
    exact hk
  rw [h1, Bool.false_or] at hk
  refine ifB_eq (fun h2 => ?_) (fun h2 => ?_)
  · rw [decide_eq_true h2, Bool.true_or, Bool.true_and] at hk
    refine ifB_dec (fun h3 => ?_) (fun h3 => ?_)
    · rw [decide_eq_true (show lo ≤ n from h3), Bool.true_and] at hk
      exact hk
    · rw [decide_eq_false (show ¬ lo ≤ n from h3), Bool.false_and] at hk
      exact hk
  rw [decide_eq_false h2, Bool.false_or] at hk
  refine ifB_eq (fun h2 => ?_) (fun h2 => ?_)
  · rw [decide_eq_true h2, Bool.true_and] at hk
    refine ifB_dec (fun h3 => ?_) (fun h3 => ?_)
    · rw [decide_eq_true (show lo ≤ n from h3), Bool.true_and] at hk
      exact hk
    · rw [decide_eq_false (show ¬ lo ≤ n from h3), Bool.false_and] at hk
      exact hk
  · rw [decide_eq_false h2, Bool.false_and] at hk
    exact hk
end
end Go.Proofs.Ytkhlollengamdaa
