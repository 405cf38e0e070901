/- What is proved: contracts of functions that the law calls, and of the law itself, over any heap. Conditions stand in each theorem. -/
import Derived.Test.YthfjpnabalkjkaaXK06k
set_option linter.unusedSimpArgs false
set_option linter.unusedVariables false
namespace Go.Proofs.Ythfjpnabalkjkaa
open Go.Oct Go.Oct.L01 Go.Oct.L06 Go.RowKit Go.Proofs.YthfjpnabalkjkaaW.PrintWords
/-- the reference's header behind -/
def ycells (x : L06.Ext) : List Value := [.int .u8 x.1, sv x.2]
theorem ycells_len (x : L06.Ext) : (ycells x).length = 2 := rfl
theorem ycells_one (x : L06.Ext) : OneCells (ycells x) := by simp [OneCells, ycells, sv, Value.oneCell']
/-- the reference's chain -/
structure RC (h : H) (L : Option Addr) (n : Nat) (ys : List L06.Ext) (p : Int) : Prop where
  row : RowH h L (n * 2) (cellsOf ycells ys)
  len : ys.length = n
  ok : ∀ y ∈ ys, isB y.1 ∧ (∀ z ∈ y.2, isB z) ∧ y.2.length ≤ 1000000
  byp : isB p
  small : n ≤ 1000000
theorem RC.ext {h h' : H} {L : Option Addr} {n : Nat} {ys : List L06.Ext} {p : Int} (r : RC h L n ys p) (x : Go.Oct.Ext h h') : RC h' L n ys p := { r with row := r.row.ext x }
theorem y_fill (x : L06.Ext) {k : Array Value → Prop} (hk : k (ycells x).toArray) : fillK (fun i => some (i * 2, 2)) (List.toArray [.int .u8 0, .string ⟨#[]⟩]) [(0, (.agg (ycells x).toArray))] k :=
  ⟨_, by simp [Instr.fill, Value.cells, ycells, List.zipIdx], hk⟩
theorem hd_two (a b : Int) (t : List Int) : hd (a :: b :: t) = a * 256 + b := by
  unfold hd getR
  rw [if_neg (by omega), if_neg (by simp only [List.length_cons]; omega)]
  simp [val]
theorem hd_short {d : List Int} (h : d.length < 2) : hd d = 0 := by
  unfold hd getR
  rw [if_neg (by omega), if_pos (by omega)]
section
variable {h : H} {k : Value → H → Prop}
/-- kind -/
theorem c52 (x : Int) (hk : k (.bool (beh x)) h) : callK Try.prog 52 #[.int .u8 x] h k := by
  refine call52 _ _ _ ?_
  unfold d52
  unfold beh at hk
  refine ifB_eq (fun h1 => ?_) (fun h1 => ifB_eq (fun h2 => ?_) (fun h2 => ifB_eq (fun h3 => ?_) (fun h3 => ?_)))
  · rw [decide_eq_true (.inl h1)] at hk; exact hk
  · rw [decide_eq_true (.inr (.inl h2))] at hk; exact hk
  · rw [decide_eq_true (.inr (.inr (.inl h3)))] at hk; exact hk
  · rw [beq_dec]
    have : decide (x = 60) = decide (x = 0 ∨ x = 43 ∨ x = 44 ∨ x = 60) := by simp [h1, h2, h3]
    rw [this]; exact hk
/-- rightExt -/
theorem c50 (x : L06.Ext) (hb : ∀ z ∈ x.2, isB z) (hl : x.2.length ≤ 1000000) (hk : ∀ h', Go.Oct.Ext h h' → k (.bool (rightX x)) h') : callK Try.prog 50 #[.agg (ycells x).toArray] h k := by
  refine call50 _ _ _ ?_
  unfold d50
  refine alloc_new fun p g y b e => ?_
  have a : At g p 0 (ycells x) := b.at_
  have hk := hk g e
  unfold rightX at hk
  refine addrK_of rfl (a.load1 1 rfl rfl (asStr_of ?_))
  refine addrK_of rfl (a.load1 0 rfl rfl (asI_of ?_))
  rw [sv_size]
  refine ifB_eq (fun h1 => ?_) (fun h1 => ?_)
  · rw [if_pos h1] at hk
    refine ifB_eq (fun h2 => ?_) (fun h2 => ?_)
    · refine addrK_of rfl (a.load1 1 rfl rfl (asStr_of ?_))
      have hx1 : x.2[1]? = some (x.2[1]'(by omega)) := List.getElem?_eq_getElem (by omega)
      have hb1 := hb _ (List.getElem_mem (show 1 < x.2.length by omega))
      have hb0 := hb _ (List.getElem_mem (show 0 < x.2.length by omega))
      have hhd : hd x.2 = x.2[0]'(by omega) * 256 + x.2[1]'(by omega) := by
        obtain ⟨u, v, t, e⟩ : ∃ u v t, x.2 = u :: v :: t := by
          rcases hx : x.2 with _ | ⟨u, _ | ⟨v, t⟩⟩
          · rw [hx] at h2; simp at h2
          · rw [hx] at h2; simp at h2
          · exact ⟨u, v, t, rfl⟩
        simp only [e, hd_two, List.getElem_cons_zero, List.getElem_cons_succ]
        rfl
      unfold isB at hb1 hb0
      refine sv_idx hb rfl hx1 ?_
      rw [needK_true (by decide), needK_true (by decide)]
      have e1 : Int.tmod (IntKind.wrap .u8 (Int.tdiv (x.2[1]'(by omega)) 2)) 4 = hd x.2 / 2 % 4 := by
        rw [Int.tdiv_eq_ediv_of_nonneg hb1.1, IntKind.wrap_u8, Int.tmod_eq_emod_of_nonneg (by omega), hhd]
        omega
      rw [e1, beq_dec]
      have e2 : decide (hd x.2 / 2 % 4 = 0) = decide (x.2.length = 6 ∧ hd x.2 / 2 % 4 = 0) := by simp only [decide_eq_decide]; omega
      rw [e2]; exact hk
    · rw [decide_eq_false (by omega)] at hk; exact hk
  · rw [if_neg h1] at hk
    refine addrK_of rfl (a.load1 0 rfl rfl (asI_of ?_))
    refine c52 x.1 (asB_of ?_)
    refine ifB_of (fun h2 => ?_) (fun h2 => ?_)
    · rw [h2, Bool.true_and] at hk
      rw [needK_true (by decide)]
      have ht : Int.tmod (x.2.length : Int) 8 = ((x.2.length % 8 : Nat) : Int) := by rw [Int.tmod_eq_emod_of_nonneg (by omega)]; omega
      rw [ht]
      refine ifB_eq (fun h3 => ?_) (fun h3 => ?_)
      · have e1 : decide ((x.2.length : Int) ≤ 2046) = decide (x.2.length % 8 = 6 ∧ x.2.length ≤ 2046) := by simp only [decide_eq_decide]; omega
        rw [e1]; exact hk
      · rw [decide_eq_false (by omega)] at hk; exact hk
    · rw [h2] at hk; exact hk
/-- later -/
theorem c51 (x : L06.Ext) (hb : ∀ z ∈ x.2, isB z) (hk : ∀ h', Go.Oct.Ext h h' → k (.bool (laterX x)) h') : callK Try.prog 51 #[.agg (ycells x).toArray] h k := by
  refine call51 _ _ _ ?_
  unfold d51
  refine alloc_new fun p g y b e => ?_
  have a : At g p 0 (ycells x) := b.at_
  have hk := hk g e
  unfold laterX at hk
  refine addrK_of rfl (a.load1 0 rfl rfl (asI_of ?_))
  refine ifB_eq (fun h1 => ?_) (fun h1 => ?_)
  rotate_left
  · rw [decide_eq_false (fun h => h1 h.1)] at hk; exact hk
  refine addrK_of rfl (a.load1 1 rfl rfl (asStr_of ?_))
  rw [sv_size]
  refine ifB_dec (fun h2 => ?_) (fun h2 => ?_)
  rotate_left
  · rw [hd_short (by omega), decide_eq_false (by omega)] at hk; exact hk
  obtain ⟨u, v, t, e⟩ : ∃ u v t, x.2 = u :: v :: t := by
    rcases hx : x.2 with _ | ⟨u, _ | ⟨v, t⟩⟩
    · rw [hx] at h2; simp at h2
    · rw [hx] at h2; simp at h2
    · exact ⟨u, v, t, rfl⟩
  have hu := hb u (by rw [e]; simp)
  have hv := hb v (by rw [e]; simp)
  rw [e, hd_two] at hk
  unfold isB at hu hv
  refine addrK_of rfl (a.load1 1 rfl rfl (asStr_of ?_))
  refine sv_idx hb (j := 0) rfl (show x.2[0]? = some u by rw [e]; rfl) ?_
  refine ifB_dec (fun h3 => ?_) (fun h3 => ?_)
  · rw [decide_eq_true (by omega)] at hk; exact hk
  refine addrK_of rfl (a.load1 1 rfl rfl (asStr_of ?_))
  refine sv_idx hb (j := 1) rfl (show x.2[1]? = some v by rw [e]; rfl) ?_
  have e2 : decide (v ≥ 8) = decide (x.1 = 44 ∧ 0 < (u * 256 + v) / 8) := by simp only [decide_eq_decide]; omega
  rw [e2]; exact hk
variable {L : Option Addr} {n q : Nat} {ys : List L06.Ext} {p : Int}
/-- the reference's Right -/
theorem c22 (r : RC h L n ys p) (hk : ∀ b : Bool, (b = true ↔ RightC ys p) → ∀ h', Go.Oct.Ext h h' → k (.bool b) h') : callK Try.prog 22 #[.agg (chv L n q p)] h k := by
  refine call22 _ _ _ ?_
  unfold d22
  refine alloc_new fun p1 g1 y1 b1 x1 => ?_
  have a1 : At g1 p1 0 [.slice L n q, .int .u8 p] := b1.at_
  have hlen := r.len
  have hsm := r.small
  refine addrK_of rfl (a1.load1 0 rfl rfl (asS_of ?_))
  refine ifB_dec (fun h16 => hk false ⟨fun h => absurd h (by decide), fun hR => by have := hR.few; omega⟩ g1 x1) (fun h16 => ?_)
  refine ⟨fun b2 b3 x g => ∃ j : Nat, x = j ∧ j ≤ n ∧ Go.Oct.Ext g1 g ∧ (∀ y ∈ ys.take j, rightX y = true) ∧ (∀ (i : Nat) (y : L06.Ext), i < j → ys[i]? = some y → (y.1 = 0 → i = 0) ∧ (laterX y = true → i + 1 = j)) ∧ (b3 = true ↔ ∃ y, 0 < j ∧ ys[j - 1]? = some y ∧ laterX y = true), fun b2 b3 x g => (n - x).toNat,
    ⟨0, rfl, by omega, Go.Oct.Ext.refl _, by simp, fun i y hi => by omega, by simp⟩, ?_⟩
  rintro b2 b3 x g ⟨j, rfl, hj, xg, hall, hin, hlast⟩
  have ag := a1.ext xg
  have x1g := x1.trans xg
  refine addrK_of rfl (ag.load1 0 rfl rfl (asS_of ?_))
  refine ifB_dec (fun hlt => ?_) (fun hge => ?_)
  · have hx : ys[j]? = some ys[j] := List.getElem?_eq_getElem (by omega)
    have hm := List.getElem_mem (show j < ys.length by omega)
    generalize ys[j] = y at *
    obtain ⟨hk1, hb, hl⟩ := r.ok y hm
    refine addrK_of rfl (ag.load1 0 rfl rfl (asS_of ?_))
    refine rowL_index ycells_len (by omega) (r.ext x1g).row rfl hx fun b q' _ ha => ha.loadN rfl ?_
    refine newVr (by simp) rfl (ycells_one y) fun p5 g2 y2 b2' x2 => ?_
    have a2 : At g2 p5 0 (ycells y) := b2'.at_
    refine ⟨fun b g3 => Go.Oct.Ext g2 g3 ∧ (b = true ↔ rightX y = false ∨ (y.1 = 0 ∧ 0 < j) ∨ b3 = true), ?_, ?_⟩
    · refine a2.loadN rfl (c50 y hb hl fun g3 x3 => asB_of ?_)
      refine ifB_of (fun h1 => ⟨x3, ?_⟩) (fun h1 => ?_)
      · have h1 : rightX y = false := by simpa using h1
        exact ⟨fun _ => .inl h1, fun _ => rfl⟩
      have h1 : rightX y = true := by simpa using h1
      refine addrK_of rfl ((a2.ext x3).load1 0 rfl rfl (asI_of ?_))
      refine ifB_eq (fun h2 => ifB_dec (fun h3 => ⟨x3, ?_⟩) (fun h3 => ⟨x3, ?_⟩)) (fun h2 => ⟨x3, ?_⟩)
      · exact ⟨fun _ => .inr (.inl ⟨h2, by omega⟩), fun _ => rfl⟩
      · constructor
        · intro h4; exact .inr (.inr h4)
        · rintro (h4 | h4 | h4)
          · rw [h1] at h4; cases h4
          · omega
          · exact h4
      · constructor
        · intro h4; exact .inr (.inr h4)
        · rintro (h4 | h4 | h4)
          · rw [h1] at h4; cases h4
          · exact absurd h4.1 h2
          · exact h4
    rintro b g3 ⟨x3, hb2⟩
    have x03 := x1g.trans (x2.trans x3)
    refine ifB_of (fun h1 => ?_) (fun h1 => ?_)
    · refine hk false ⟨fun h => absurd h (by decide), fun hR => ?_⟩ g3 x03
      rcases hb2.1 h1 with h2 | h2 | h2
      · have := hR.all y hm; rw [h2] at this; cases this
      · have := hR.hop j y hx h2.1; omega
      · obtain ⟨z, h3, h4, h5⟩ := hlast.1 h2
        have := hR.late _ z h4 h5
        omega
    · have hn : ¬ (rightX y = false ∨ (y.1 = 0 ∧ 0 < j) ∨ b3 = true) := fun h => by rw [hb2.2 h] at h1; cases h1
      refine (a2.ext x3).loadN rfl (c51 y hb fun g4 x4 => asB_of ?_)
      refine ⟨⟨j + 1, wrap64_id (by omega) (by omega), by omega, xg.trans (x2.trans (x3.trans x4)), ?_, ?_, ?_⟩, ?_⟩
      · rw [List.take_add_one, hx]
        intro z hz
        rcases List.mem_append.1 hz with hz | hz
        · exact hall z hz
        · simp at hz
          subst hz
          cases h5 : rightX z
          · exact absurd (.inl h5) hn
          · rfl
      · intro i z hi hz
        rcases Nat.lt_or_ge i j with h3 | h3
        · refine ⟨(hin i z h3 hz).1, fun hl2 => ?_⟩
          have h4 := (hin i z h3 hz).2 hl2
          exact absurd (.inr (.inr (hlast.2 ⟨z, by omega, by rw [show j - 1 = i by omega]; exact hz, hl2⟩))) hn
        · have : i = j := by omega
          subst this
          rw [hx] at hz
          cases hz
          refine ⟨fun h0 => ?_, fun _ => rfl⟩
          rcases Nat.eq_zero_or_pos i with h4 | h4
          · exact h4
          · exact absurd (.inr (.inl ⟨h0, h4⟩)) hn
      · constructor
        · intro h5; exact ⟨y, by omega, by simpa using hx, h5⟩
        · rintro ⟨z, _, h5, h6⟩
          rw [show j + 1 - 1 = j by omega, hx] at h5
          cases h5
          exact h6
      · rw [wrap64_id (by omega) (by omega)]
        dsimp only
        omega
  · have hjn : j = n := by omega
    subst hjn
    rw [List.take_of_length_le (by omega)] at hall
    have hR : (beh p = true → ∃ y, ys[ys.length - 1]? = some y ∧ laterX y = true) → RightC ys p := fun hl =>
      ⟨by omega, hall, fun i y hy h0 => (hin i y (by have := (List.getElem?_eq_some_iff.1 hy).1; omega) hy).1 h0, fun i y hy h0 => by rw [hlen]; exact (hin i y (by have := (List.getElem?_eq_some_iff.1 hy).1; omega) hy).2 h0, hl⟩
    refine ifB_of (fun h1 => ?_) (fun h1 => ?_)
    · obtain ⟨z, h2, h3, h4⟩ := hlast.1 h1
      exact hk true ⟨fun _ => hR fun _ => ⟨z, by rw [hlen]; exact h3, h4⟩, fun _ => rfl⟩ g x1g
    · refine addrK_of rfl (ag.load1 1 rfl rfl (asI_of ?_))
      refine c52 p (asB_of (hk _ ⟨fun h2 => hR fun h3 => ?_, fun hRc => ?_⟩ g x1g))
      · rw [h3] at h2; cases h2
      · cases h2 : beh p
        · rfl
        · obtain ⟨z, h3, h4⟩ := hRc.last h2
          have hz := (List.getElem?_eq_some_iff.1 h3).1
          rw [hlen] at h3
          have := hlast.2 ⟨z, by omega, h3, h4⟩
          rw [h1] at this; cases this
theorem eqM92 (d : Nat) (w : World) (x y : L06.Ext) : (Op.equalIn (d + 2) 92 (.agg (ycells x).toArray) (.agg (ycells y).toArray)).run Try.prog w = .ok (x.1 == y.1 && (strOfNums x.2).toList == (strOfNums y.2).toList) w := by
  refine eqA_of Try.underlying92 (by kernel_rfl) ?_
  refine eqf_cons (by rfl) (by go_simp; rfl) (by go_simp; rfl) (by go_simp) ?_
  exact eqf_last (by rfl) (by go_simp; rfl) (by go_simp; rfl) (by unfold sv; go_simp)
theorem eq92 (v w : L06.Ext) (hv : ∀ x ∈ v.2, isB x) (hw : ∀ x ∈ w.2, isB x) {k : Bool → Prop} (hk : k (decide (v = w))) : eqAggK Try.prog 92 (ycells v).toArray (ycells w).toArray k := by
  refine ⟨v.1 == w.1 && (strOfNums v.2).toList == (strOfNums w.2).toList, by kernel_rfl, fun z => eqM92 9998 z _ _, ?_⟩
  have : (v.1 == w.1 && (strOfNums v.2).toList == (strOfNums w.2).toList) = decide (v = w) := by
    rw [str_beq hv hw, beq_dec]
    obtain ⟨a, b⟩ := v
    obtain ⟨c, d⟩ := w
    by_cases h0 : a = c <;> by_cases h1 : b = d <;> simp [h0, h1]
  rw [this]; exact hk
/-- the reference's Same -/
theorem c23 {L' : Option Addr} {n' q' : Nat} {zs : List L06.Ext} {p' : Int} (r : RC h L n ys p) (r' : RC h L' n' zs p') (hk : ∀ h', Go.Oct.Ext h h' → k (.bool (decide (ys = zs ∧ p = p'))) h') : callK Try.prog 23 #[.agg (chv L n q p), .agg (chv L' n' q' p')] h k := by
  refine call23 _ _ _ _ ?_
  unfold d23
  refine alloc_new fun p1 g1 y1 b1 x1 => alloc_new fun p2 g2 y2 b2 x2 => ?_
  have x12 := x1.trans x2
  have a1 : At g2 p1 0 [.slice L n q, .int .u8 p] := (b1.ext x2).at_
  have a2 : At g2 p2 0 [.slice L' n' q', .int .u8 p'] := b2.at_
  have hk := hk g2 x12
  have r2 := r.ext x12
  have r2' := r'.ext x12
  have hl := r.len
  have hl' := r'.len
  have hf := r.small
  refine addrK_of rfl (a1.load1 0 rfl rfl (asS_of ?_))
  refine addrK_of rfl (a2.load1 0 rfl rfl (asS_of ?_))
  refine ifB_ne (fun h1 => ?_) (fun h1 => ?_)
  · rw [decide_eq_false (by rintro ⟨e, _⟩; rw [e] at hl; omega)] at hk; exact hk
  have hnn : n' = n := by omega
  subst hnn
  refine ⟨fun b x g' => g' = g2 ∧ ∃ j : Nat, x = j ∧ j ≤ n' ∧ ys.take j = zs.take j, fun b x g' => (n' - x).toNat, ⟨rfl, 0, rfl, by omega, rfl⟩, ?_⟩
  rintro b x g' ⟨rfl, j, rfl, hj, he⟩
  refine addrK_of rfl (a1.load1 0 rfl rfl (asS_of ?_))
  refine ifB_dec (fun hlt => draw_ext ?_) (fun hge => ?_)
  · have hx : ys[j]? = some ys[j] := List.getElem?_eq_getElem (by omega)
    have hy : zs[j]? = some zs[j] := List.getElem?_eq_getElem (by omega)
    have hbx := (r.ok _ (List.getElem_mem (show j < ys.length by omega))).2.1
    have hby := (r'.ok _ (List.getElem_mem (show j < zs.length by omega))).2.1
    generalize ys[j] = v at *
    generalize zs[j] = w at *
    refine addrK_of rfl (a1.loadS1 0 rfl rfl (asS_of ?_))
    refine rowL_index ycells_len (by omega) r2.row rfl hx fun b q' _ ha => ha.loadSN rfl ?_
    refine addrK_of rfl (a2.loadS1 0 rfl rfl (asS_of ?_))
    refine rowL_index ycells_len (by omega) r2'.row rfl hy fun b q' _ ha => ha.loadSN rfl ?_
    refine eq92 v w hbx hby ?_
    by_cases h2 : v = w
    · rw [decide_eq_true h2, ifB_nt]
      refine ⟨⟨rfl, j + 1, wrap64_id (by omega) (by omega), by omega, ?_⟩, ?_⟩
      · rw [List.take_add_one, List.take_add_one, he, hx, hy, h2]
      · rw [wrap64_id (by omega) (by omega)]
        dsimp only
        omega
    · rw [decide_eq_false h2, ifB_nf]
      rw [decide_eq_false (fun h => take_ne (j := j) (by rw [hx, hy]; simpa using h2) h.1)] at hk
      exact hk
  · have : j = n' := by omega
    subst this
    rw [List.take_of_length_le (by omega), List.take_of_length_le (by omega)] at he
    refine addrK_of rfl (a1.load1 1 rfl rfl (asI_of ?_))
    refine addrK_of rfl (a2.load1 1 rfl rfl (asI_of ?_))
    rw [beq_dec]
    have e1 : decide (ys = zs ∧ p = p') = decide (p = p') := by
      by_cases h2 : p = p'
      · rw [decide_eq_true h2, decide_eq_true ⟨he, h2⟩]
      · rw [decide_eq_false h2, decide_eq_false (fun h => h2 h.2)]
    rw [← e1]; exact hk
/-- docs.Chain -/
theorem c18 {A : Option Addr} {n c : Nat} {xs : List Ex} {p : Int} (ch : Ch h A n xs p) (hn : n ≤ 1000) (hx : ∀ x ∈ xs, x.n ≤ 1000000)
    (hk : ∀ (L : Option Addr) (q : Nat) (h' : H), Go.Oct.Ext h h' → Lst h' h.size 92 ycells 2 L n q (pairs xs) → RC h' L n (pairs xs) p → k (.agg (chv L n q p)) h') : callK Try.prog 18 #[.agg (chv A n c p)] h k := by
  refine call18 _ _ _ ?_
  unfold d18
  have hlen := ch.len
  have hpl : (pairs xs).length = n := by simp [pairs, hlen]
  refine alloc_new fun p1 g1 y1 b1 x1 => alloc_new fun p2 g2 y2 b2 x2 => ?_
  have a1 : At g2 p1 0 [.slice A n c, .int .u8 p] := (b1.ext x2).at_
  refine addrK_of rfl (a1.load1 1 rfl rfl (asI_of ?_))
  refine newVr (by simp) rfl (by simp [OneCells, Value.oneCell']) fun p3 g3 y3 b3 x3 => ?_
  have x12 := x1.trans x2
  have x13 := x12.trans x3
  have z1 := x1.size
  have z2 := x2.size
  have l2 := b2.lt
  have a13 := a1.ext x3
  have b13 : Blk g3 p1 (chv A n c p) 29 := b1.ext (x2.trans x3)
  refine ⟨fun x g => ∃ (j : Nat) (L : Option Addr) (q : Nat), x = j ∧ j ≤ n ∧ Go.Oct.Ext h g ∧ Blk g p3 (chv L j q p) 53 ∧ Blk g p1 (chv A n c p) 29 ∧ Blk g p2 (chv none 0 0 0) 53 ∧ Lst g h.size 92 ycells 2 L j q ((pairs xs).take j), fun x g => (n - x).toNat, ⟨0, none, 0, rfl, by omega, x13, b3, b13, b2.ext x3, Lst.nil⟩, ?_⟩
  rintro x g ⟨j, L, q, rfl, hj, xg, k3, k1, k2, l⟩
  have ag : At g p1 0 [.slice A n c, .int .u8 p] := k1.at_
  have a3 : At g p3 0 [.slice L j q, .int .u8 p] := k3.at_
  refine addrK_of rfl (ag.load1 0 rfl rfl (asS_of ?_))
  refine ifB_dec (fun hlt => draw_ext ?_) (fun hge => ?_)
  · have hx' : xs[j]? = some xs[j] := List.getElem?_eq_getElem (by omega)
    have hm := List.getElem_mem (show j < xs.length by omega)
    have hpx : (pairs xs)[j]? = some xs[j].pair := pairs_get hx'
    generalize xs[j] = x at *
    have ox := ch.ok x hm
    have cg := ch.ext xg
    refine addrK_of rfl (a3.loadS1 0 rfl rfl (asS_of ?_))
    refine addrK_of rfl (ag.loadS1 0 rfl rfl (asS_of ?_))
    refine rowL_index Ex.len (by omega) cg.row rfl hx' fun b q' _ ha => addrK_of rfl (ha.loadS1 0 rfl rfl (asI_of ?_))
    refine addrK_of rfl (ag.loadS1 0 rfl rfl (asS_of ?_))
    refine rowL_index Ex.len (by omega) cg.row rfl hx' fun b q' _ ha => addrK_of rfl (ha.loadS1 1 rfl rfl (asS_of ?_))
    refine strK_of (xs := x.d) (ox.row.ext xg) ⟨Go.Oct.Ext.refl _, ?_⟩
    refine y_fill (x.k, x.d) (alloc_new fun p31 g4 y4 b4 x4 => ⟨x4, src_blk b4 rfl ?_⟩)
    have z4 := (xg.trans x4).size
    have l4 := l.ext x4
    refine Lst.push (f := ycells) ycells_len l4 (x.k, x.d) rfl (ycells_one _) (by omega) z4 (by omega) fun L' q' g5 l5 m5 d5 => ?_
    have k35 := (k3.ext x4).mod m5 (fun hi => l4.2.ne_blk (k3.ext x4) (by decide) _ hi rfl)
    have k15 := (k1.ext x4).mod m5 (fun hi => l4.2.ne_blk (k1.ext x4) (by decide) _ hi rfl)
    have k25 := (k2.ext x4).mod m5 (fun hi => l4.2.ne_blk (k2.ext x4) (by decide) _ hi rfl)
    have e5 := (xg.trans x4).then m5 (fun i hi => l4.2.base_le hi)
    refine addrK_of rfl ?_
    refine store_blk k35 rfl (by simp [chv]) (by simp [OneCells, Value.cells, Value.oneCell']) fun g6 k6 m6 => ?_
    have k6 : Blk g6 p3 (chv L' (j + 1) q' p) 53 := k6
    have hp3 : h.size ≤ p3 := by omega
    refine ⟨⟨j + 1, L', q', wrap64_id (by omega) (by omega), by omega, e5.then m6 (fun i hi => by rw [hi]; exact hp3), k6, k15.mod m6 (fun e => by have := b13.lt; have := b1.lt; omega), k25.mod m6 (fun e => by omega), ?_⟩, ?_⟩
    · rw [List.take_add_one, hpx]
      exact l5.mod m6 (fun i hi e => l5.2.ne_blk k35 (by decide) i hi e)
    · rw [wrap64_id (by omega) (by omega)]
      dsimp only
      omega
  · have hjn : j = n := by omega
    subst hjn
    rw [List.take_of_length_le (by omega)] at l
    refine a3.loadN rfl ?_
    refine store_all k2 rfl (by rfl) (by simp [OneCells, Value.oneCell']) fun g6 k6 m6 => ?_
    have k6 : Blk g6 p2 (chv L j q p) 53 := k6
    have l6 := l.mod m6 (fun i hi e => l.2.ne_blk k2 (by decide) i hi e)
    refine k6.at_.loadN rfl (hk L q g6 (xg.then m6 (fun i hi => by rw [hi]; omega)) l6 ⟨l6.2.row, l6.1, fun y hy => ?_, ch.byp, by omega⟩)
    obtain ⟨x, hx', rfl⟩ := List.mem_map.1 hy
    have ox := ch.ok x hx'
    exact ⟨ox.byk, ox.byd, by have := ox.ln; have := hx x hx'; show x.d.length ≤ _; omega⟩
end
end Go.Proofs.Ythfjpnabalkjkaa
