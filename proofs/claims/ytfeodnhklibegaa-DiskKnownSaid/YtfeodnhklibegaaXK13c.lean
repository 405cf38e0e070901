/- What is proved: contracts of functions that the law calls, and of the law itself, over any heap. Conditions stand in each theorem. -/
import Derived.Test.YtfeodnhklibegaaXK13b
set_option linter.unusedSimpArgs false
set_option linter.unusedVariables false
namespace Go.Proofs.Ytfeodnhklibegaa
open Go.Oct Go.Oct.L01

theorem wt_fill (w : Wt) {k : Array Value → Prop} (hk : k w.cells.toArray) : fillK (fun i => some (i * 2, 2)) (List.toArray [.int .i64 0, .slice none 0 0]) [(0, (.agg w.cells.toArray))] k :=
  ⟨_, by simp [Instr.fill, Value.cells, Wt.cells, List.zipIdx], hk⟩
/-- copied -/
theorem c27 (w : Wt) (h : H) (k : Value → H → Prop) (hr : RowH h w.A w.n (w.bs.map bf).toArray) (hn : w.n ≤ 1099511627776)
    (hk : ∀ A' c' h', Ext h h' → Byt h' h.size A' w.n c' w.bs → k (.agg (Wt.cells ⟨w.At, A', w.n, c', w.bs⟩).toArray) h') : callK Try.prog 27 #[.agg w.cells.toArray] h k := by
  refine call27 _ _ _ ?_
  unfold d27
  refine alloc_new fun p1 h1 y1 b1 e1 => alloc_new fun p2 h2 y2 b2 e2 => draw_ext ?_
  have a1 : At h2 p1 0 w.cells := (b1.ext e2).at_
  have e12 := e1.trans e2
  refine addrK_of rfl (a1.loadS1 0 rfl rfl (asI_of ?_))
  refine addrK_of rfl (a1.loadS1 1 rfl rfl (asS_of ?_))
  refine c29 w.A w.n w.c w.bs h2 _ (hr.ext e12) hn fun A' c' h3 e3 l3 => asS_of ⟨e3, ?_⟩
  refine store_blk (b2.ext e3) rfl (by simp) (by simp [OneCells, Value.oneCell']) fun h4 b4 m4 => ?_
  have hs1 := e1.size
  have hb2 := b2.lt
  have b4 : Blk h4 p2 (Wt.cells ⟨w.At, A', w.n, c', w.bs⟩).toArray 46 := b4
  refine b4.at_.loadN rfl ?_
  refine hk A' c' h4 ((e12.trans e3).then m4 (fun i hi => by omega)) (Lst.weaken (l3.mod m4 (fun i hi hp => by have := l3.2.base_le hi; omega)) e12.size)
section
variable {h : H} {base pd : Nat} {S : Nat → Prop} {D N : List Int} {U : List (Int × List Int)}
/-- Sync -/
theorem c10 (d : Dk h base pd S D N U) (k : Value → H → Prop) (hk : ∀ S' h', Dk h' base pd S' N N [] → (∀ i, S' i → S i) → Go.Oct.Mod h h' S → k (.int .i64 0) h') : callK Try.prog 10 #[.pointer (some ⟨pd, 0, none⟩)] h k := by
  obtain ⟨A, n, c, B, m, d', C, u, e, ws, s, hU, hS⟩ := d
  refine call10 _ _ _ ?_
  unfold d10
  rw [needK_true (by simp)]
  refine ifB_of (fun hA => by simp at hA) (fun _ => draw_ext ?_)
  rw [nilK_some, addrK_mk]
  refine s.blk.at_.loadS1 0 rfl rfl (asS_of ?_)
  rw [nilK_some, addrK_mk]
  refine s.blk.at_.loadS1 1 rfl rfl (asS_of ?_)
  have h1 : D.length = n := s.dur.1
  have h2 : N.length = m := s.now.1
  have h3 := s.len
  refine Lst.copies (f := bf) s.dur (o := 0) N (Lst.row (f := bf) s.now) bf_one (by omega) (by omega) (fun _ => by cases A <;> simp [Addr.add]) fun g l1 m1 => ?_
  have e1 : List.take 0 D ++ N ++ List.drop (0 + m) D = N := by rw [List.drop_of_length_le (by omega)]; simp
  rw [e1] at l1
  have hdA : ¬ blkOf A pd := fun hi => s.dur.2.ne_blk s.blk (by decide) _ hi rfl
  have b1 := s.blk.mod m1 hdA
  rw [nilK_some, addrK_mk]
  refine store_blk b1 rfl (by simp) (by simp [OneCells, Value.cells, Value.oneCell']) fun g2 b2 m2 => ?_
  have b2 : Blk g2 pd #[.slice A n c, .slice B m d', .slice none 0 0] 53 := b2
  have hdB : ¬ blkOf B pd := fun hi => s.now.2.ne_blk s.blk (by decide) _ hi rfl
  refine hk (foot pd A B none []) g2 ⟨A, n, c, B, m, d', none, 0, 0, [], ⟨b2, s.le, l1.mod m2 (fun i hi hp => hdA (by rwa [hp] at hi)), (s.now.mod m1 (fun i hi ha => s.dj i ha hi)).mod m2 (fun i hi hp => hdB (by rwa [hp] at hi)), Lst.nil, by simp, rfl, s.dj, by simp, by simp, s.byN, s.byN, by simp, by rw [h3]; exact s.small⟩, rfl, fun i => Iff.rfl⟩ ?_ ((m1.mono fun i _ hi => (hS i).2 (.inr (.inl hi))).trans (m2.mono fun i _ hi => (hS i).2 (.inl hi)))
  rintro i (rfl | hi | hi | ⟨_, e, _⟩ | ⟨w, hw, _⟩)
  · exact (hS _).2 (.inl rfl)
  · exact (hS _).2 (.inr (.inl hi))
  · exact (hS _).2 (.inr (.inr (.inl hi)))
  · cases e
  · simp at hw
end
end Go.Proofs.Ytfeodnhklibegaa
