/- What is proved: contracts of functions that the law calls, and of the law itself, over any heap. Conditions stand in each theorem. -/
import Derived.Test.YtfeodnhklibegaaXK13k
set_option linter.unusedSimpArgs false
set_option linter.unusedVariables false
namespace Go.Proofs.Ytfeodnhklibegaa
open Go.Oct Go.Oct.L01
section
variable {h : H} {k : Value → H → Prop}
theorem n18 (hk : k (.int .i64 0) h) : callK Try.prog 18 #[.pointer none] h k := by
  refine call18 _ _ _ ?_
  unfold d18
  rw [needK_true (by simp)]
  exact ifB_of (fun _ => hk) (fun h => by simp at h)
theorem n24 (f : FuncId) (a b : Int) (hk : k (.tuple #[.slice none 0 0, .int .i64 1]) h) : callK Try.prog 24 #[.pointer none, .func (.func f) #[] #[], .int .i64 a, .int .i64 b] h k := by
  refine call24 _ _ _ _ _ _ _ _ ?_
  unfold d24
  rw [needK_true (by simp)]
  exact ifB_of (fun _ => hk) (fun h => by simp at h)
theorem n12 (a b : Int) (hk : k (.tuple #[.slice none 0 0, .int .i64 1]) h) : callK Try.prog 12 #[.pointer none, .int .i64 a, .int .i64 b] h k := by
  refine call12 _ _ _ _ _ ?_
  unfold d12
  exact n24 _ _ _ (asT2_of (asS_of (asI_of hk)))
theorem n15 (a b : Int) (hk : k (.tuple #[.slice none 0 0, .int .i64 1]) h) : callK Try.prog 15 #[.pointer none, .int .i64 a, .int .i64 b] h k := by
  refine call15 _ _ _ _ _ ?_
  unfold d15
  exact n24 _ _ _ (asT2_of (asS_of (asI_of hk)))
theorem n13 (a : Int) (A : Option Addr) (n c : Nat) (hk : k (.int .i64 1) h) : callK Try.prog 13 #[.pointer none, .int .i64 a, .slice A n c] h k := by
  refine call13 _ _ _ _ _ _ _ ?_
  unfold d13
  exact ⟨fun _ _ _ _ g => False, ⟨by simp, ifB_of (fun _ => hk) (fun h => by simp at h)⟩, fun _ _ _ _ g hg => hg.elim⟩
theorem n10 (hk : k (.int .i64 1) h) : callK Try.prog 10 #[.pointer none] h k := by
  refine call10 _ _ _ ?_
  unfold d10
  rw [needK_true (by simp)]
  exact ifB_of (fun _ => hk) (fun h => by simp at h)
theorem n16 (hk : k (.slice none 0 0) h) : callK Try.prog 16 #[.pointer none] h k := by
  refine call16 _ _ _ ?_
  unfold d16
  rw [needK_true (by simp)]
  exact ifB_of (fun _ => hk) (fun h => by simp at h)
theorem n11 (A : Option Addr) (n c : Nat) (hk : k (.int .i64 0) h) : callK Try.prog 11 #[.pointer none, .slice A n c] h k := by
  refine call11 _ _ _ _ _ _ ?_
  unfold d11
  rw [needK_true (by simp)]
  exact ifB_of (fun _ => hk) (fun h => by simp at h)
theorem n17 (hk : k (.pointer none) h) : callK Try.prog 17 #[.pointer none] h k := by
  refine call17 _ _ _ ?_
  unfold d17
  rw [needK_true (by simp)]
  exact ifB_of (fun _ => hk) (fun h => by simp at h)
/-- Same, of which one is not there -/
theorem n19 (p q : Option Addr) (hpq : p = none ∨ q = none) (hk : k (.bool (p.isNone && q.isNone)) h) : callK Try.prog 19 #[.pointer p, .pointer q] h k := by
  refine call19 _ _ _ _ ?_
  unfold d19
  refine ⟨fun b g => b = true ∧ g = h, ?_, ?_⟩
  · refine ⟨.inr rfl, ifB_of (fun _ => ⟨rfl, rfl⟩) (fun h1 => ⟨.inr rfl, ?_, rfl⟩)⟩
    cases p with
    | none => simp at h1
    | some a => rcases hpq with h2 | h2
                · cases h2
                · subst h2; rfl
  · rintro b g ⟨rfl, rfl⟩
    refine (show needK (p = none ∨ q = none) _ from ?_)
    rw [needK_true hpq]
    exact hk
end
theorem act_fill (a : Act) {k : Array Value → Prop} (hk : k a.cells.toArray) : fillK (fun i => some (i * 4, 4)) (List.toArray [.int .i64 0, .int .i64 0, .slice none 0 0, .slice none 0 0]) [(0, (.agg a.cells.toArray))] k :=
  ⟨_, by simp [Instr.fill, Value.cells, Act.cells, List.zipIdx], hk⟩
/-- DiskNone -/
theorem c4 (a : Act) (x : Int) (h : H) (k : Value → H → Prop) (hk : ∀ h', Ext h h' → k (.bool true) h') : callK Try.prog 4 #[.agg a.cells.toArray, .int .i64 x] h k := by
  refine call4 _ _ _ _ ?_
  unfold d4
  refine alloc_new fun p g1 y1 b1 x1 => ?_
  have a1 : At g1 p 0 a.cells := b1.at_
  refine ⟨fun b g => Ext g1 g ∧ (b = false → 0 ≤ x ∧ x ≤ 300), ?_, ?_⟩
  · refine a1.loadN rfl (act_fill a ?_)
    refine alloc_new fun p13 g2 y2 b2 x2 => ?_
    have r : RowH g2 (some ⟨p13, 0, none⟩) (1 * 4) (cellsOf Act.cells [a]) := by
      have := b2.row 0 4 (by simp [Act.cells])
      simpa [cellsOf, Act.cells] using this
    refine c7 _ 1 1 [a] g2 _ r rfl (asB_of ⟨x2, by simp⟩) fun _ => asB_of ?_
    refine ifB_of (fun _ => ⟨x2, by simp⟩) (fun _ => ifB_dec (fun _ => ⟨x2, by simp⟩) (fun h1 => ⟨x2, fun h2 => ?_⟩))
    have h2 := of_decide_eq_false h2
    omega
  rintro b g ⟨x2, hb⟩
  have e2 := x1.trans x2
  refine ifB_of (fun _ => c8 _ _ fun h' e => asB_of (hk h' (e2.trans e))) (fun hb' => ?_)
  obtain ⟨h0, h3⟩ := hb hb'
  have a2 := a1.ext x2
  refine addrK_of rfl (a2.load1 1 rfl rfl (asI_of ?_))
  refine n12 _ _ (asT2_of (asS_of (asI_of ?_)))
  refine addrK_of rfl (a2.load1 1 rfl rfl (asI_of ?_))
  refine n15 _ _ (asT2_of (asS_of (asI_of ?_)))
  refine c9 x g _ (fun e => by omega) (fun e => by omega) fun _ _ pd S g3 x3 kd => asT2_of (asP_of (asI_of ?_))
  have a3 := a2.ext x3
  refine n18 (asI_of ?_)
  refine ifB_eq (fun _ => ?_) (fun h => absurd rfl h)
  refine addrK_of rfl (a3.load1 1 rfl rfl (asI_of ?_))
  refine addrK_of rfl (a3.load1 2 rfl rfl (asS_of ?_))
  refine n13 _ _ _ _ (asI_of ?_)
  refine ifB_eq (fun _ => ?_) (fun h => absurd rfl h)
  refine ifB_eq (fun _ => ?_) (fun h => absurd rfl h)
  refine ifB_eq (fun _ => ?_) (fun h => absurd rfl h)
  refine n10 (asI_of ?_)
  refine ifB_eq (fun _ => ?_) (fun h => absurd rfl h)
  refine n16 (asS_of ?_)
  refine ifB_eq (fun _ => ?_) (fun h => absurd rfl h)
  refine addrK_of rfl (a3.load1 3 rfl rfl (asS_of ?_))
  refine n11 _ _ _ (asI_of ?_)
  refine ifB_eq (fun _ => ?_) (fun h => absurd rfl h)
  refine n17 (asP_of ?_)
  rw [needK_true (by simp)]
  refine (show ifB true _ _ from ?_)
  refine n19 _ _ (.inl rfl) (asB_of ?_)
  refine (show ifB true _ _ from ?_)
  refine n19 _ _ (.inl rfl) (asB_of ?_)
  refine (show ifB true _ _ from ?_)
  refine n19 _ _ (.inr rfl) (asB_of ?_)
  refine (show ifB true _ _ from ?_)
  exact c8 _ _ fun h' e => asB_of (hk h' (e2.trans (x3.trans e)))
end Go.Proofs.Ytfeodnhklibegaa
