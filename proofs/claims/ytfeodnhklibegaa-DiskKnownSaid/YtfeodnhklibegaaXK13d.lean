/- What is proved: contracts of functions that the law calls, and of the law itself, over any heap. Conditions stand in each theorem. -/
import Derived.Test.YtfeodnhklibegaaXK13c
set_option linter.unusedSimpArgs false
set_option linter.unusedVariables false
namespace Go.Proofs.Ytfeodnhklibegaa
open Go.Oct Go.Oct.L01

/-- bytes written over others -/
def lay (X : List Int) (a : Int) (bs : List Int) : List Int := X.take a.toNat ++ bs ++ X.drop (a.toNat + bs.length)
theorem lay_len {X : List Int} {a : Int} {bs : List Int} (ha : 0 ≤ a) (hl : a + bs.length ≤ X.length) : (lay X a bs).length = X.length := by
  simp only [lay, List.length_append, List.length_take, List.length_drop]
  omega
theorem lay_isB {X : List Int} {a : Int} {bs : List Int} (hX : ∀ x ∈ X, isB x) (hb : ∀ x ∈ bs, isB x) : ∀ x ∈ lay X a bs, isB x := by
  intro x hx
  simp only [lay, List.mem_append] at hx
  rcases hx with (hx | hx) | hx
  · exact hX x (List.mem_of_mem_take hx)
  · exact hb x hx
  · exact hX x (List.mem_of_mem_drop hx)
theorem lay_nil (X : List Int) (a : Int) : lay X a [] = X := by simp [lay]
def plus (U : List (Int × List Int)) (a : Int) (bs : List Int) : List (Int × List Int) := if bs = [] then U else U ++ [(a, bs)]

section
variable {h : H} {base pd : Nat} {S : Nat → Prop} {D N : List Int} {U : List (Int × List Int)}
/-- Write -/
theorem c13 (d : Dk h base pd S D N U) (a : Int) (A2 : Option Addr) (n2 q2 : Nat) (bs : List Int) (k : Value → H → Prop) (ha : a ≤ 9223372036854775807) (hr : RowH h A2 n2 (bs.map bf).toArray) (hn : n2 ≤ 1099511627776) (hb : ∀ x ∈ bs, isB x) (hdis : 0 < n2 → ∀ i, blkOf A2 i → ¬ S i) (hU : U.length ≤ 1073741824)
    (hno : liesB D.length a n2 = false → k (.int .i64 130) h)
    (hk : liesB D.length a n2 = true → ∀ S' h', Dk h' base pd S' D (lay N a bs) (plus U a bs) → (∀ i, S' i → S i ∨ h.size ≤ i) → Go.Oct.Mod h h' S → k (.int .i64 0) h') :
    callK Try.prog 13 #[.pointer (some ⟨pd, 0, none⟩), .int .i64 a, .slice A2 n2 q2] h k := by
  refine call13 _ _ _ _ _ _ _ ?_
  unfold d13
  have hbl : bs.length = n2 := by simpa using hr.1
  refine ⟨fun b7 x6 b10 b17 g => liesB D.length a n2 = true ∧ ∃ S', Dk g base pd S' D (lay N a bs) (plus U a bs) ∧ (∀ i, S' i → S i ∨ h.size ≤ i) ∧ Go.Oct.Mod h g S, ?_, fun b7 x6 b10 b17 g hg => hk hg.1 _ g hg.2.choose_spec.1 hg.2.choose_spec.2.1 hg.2.choose_spec.2.2⟩
  refine ⟨by simp, ?_⟩
  refine ifB_of (fun hA => by simp at hA) (fun _ => ?_)
  refine c26 d a n2 _ ha (asB_of (ifB_of (fun hl => hno (by simpa using hl)) (fun hl => ?_)))
  have hl : liesB D.length a n2 = true := by simpa using hl
  have hl2 : 0 ≤ a ∧ 0 ≤ (n2 : Int) ∧ a ≤ D.length ∧ (n2 : Int) ≤ D.length - a := by unfold liesB at hl; simpa using hl
  refine ifB_dec (fun hp => ?_) (fun hp => ?_)
  rotate_left
  · have : bs = [] := List.length_eq_zero_iff.1 (by omega)
    subst this
    exact ⟨hl, S, by rw [lay_nil]; exact d, fun i hi => .inl hi, Go.Oct.Mod.refl _ _⟩
  obtain ⟨A, n, c, B, m, d', C, u, e, ws, s, hUw, hS⟩ := d
  have hne : bs ≠ [] := by intro e; subst e; simp at hbl; omega
  refine draw_ext ?_
  rw [nilK_some, addrK_mk]
  refine s.blk.at_.loadS1 2 rfl rfl (asS_of ?_)
  refine c27 ⟨a, A2, n2, q2, bs⟩ h _ hr hn fun A3 c3 g1 x1 l1 => asA_of rfl ⟨x1, wt_fill _ ?_⟩
  refine alloc_new fun p30 g2 y2 b2 x2 => ⟨x1.trans x2, src_blk b2 rfl ?_⟩
  have x12 := x1.trans x2
  have s2 := s.mod x12.mod (T := fun _ => False) (fun _ _ e => e)
  have hul : ws.length = u := s.uns.1
  have hUl : U.length = u := by rw [hUw, List.length_map]; exact hul
  refine Lst.push (f := Wt.cells) Wt.len s2.uns ⟨a, A3, n2, c3, bs⟩ rfl (Wt.one _) (by omega) (Nat.le_trans s.le (Nat.le_of_lt (Nat.lt_of_lt_of_le s.blk.lt x12.size))) (by omega) fun C' e' g3 l3 m3 d3 => ?_
  have hCp : ¬ blkOf C pd := fun hi => s.uns.2.ne_blk s.blk (by decide) _ hi rfl
  have hCB : ∀ i, blkOf B i → ¬ blkOf C i := s.now.2.disj s.uns.2 (by decide)
  have hCA : ∀ i, blkOf A i → ¬ blkOf C i := s.dur.2.disj s.uns.2 (by decide)
  have b3 := s2.blk.mod m3 hCp
  rw [nilK_some, addrK_mk]
  refine store_blk b3 rfl (by simp) (by simp [OneCells, Value.cells, Value.oneCell']) fun g4 b4 m4 => ?_
  have b4 : Blk g4 pd #[.slice A n c, .slice B m d', .slice C' (u + 1) e'] 53 := b4
  rw [nilK_some, addrK_mk]
  refine b4.at_.load1 1 rfl rfl (asS_of ?_)
  have hBp : ¬ blkOf B pd := fun hi => s.now.2.ne_blk s.blk (by decide) _ hi rfl
  have hAp : ¬ blkOf A pd := fun hi => s.dur.2.ne_blk s.blk (by decide) _ hi rfl
  have nowL := (s2.now.mod m3 hCB).mod m4 (fun i hi hp => hBp (by rwa [hp] at hi))
  have durL := (s2.dur.mod m3 hCA).mod m4 (fun i hi hp => hAp (by rwa [hp] at hi))
  have hNm : N.length = m := s.now.1
  have hle := s.now.2.le
  have hlen := s.len
  obtain ⟨o, rfl⟩ := Int.eq_ofNat_of_zero_le hl2.1
  refine ⟨by simp, ?_⟩
  refine ⟨by simp, by simp only [Option.getD_some, Option.getD_none]; omega, by simp only [Option.getD_some, Option.getD_none]; omega, by simp, ?_⟩
  simp only [Option.getD_some, Option.getD_none, Int.toNat_natCast, Nat.mul_one]
  rw [if_neg (by omega)]
  have r4 := ((hr.ext x12).mod m3 (fun ad e hi => hdis (by omega) _ ⟨ad, e, rfl⟩ ((hS _).2 (.inr (.inr (.inr (.inl hi))))))).mod m4 (fun ad e hi => hdis (by omega) _ ⟨ad, e, rfl⟩ ((hS _).2 (.inl hi)))
  refine Lst.copies (f := bf) nowL (o := o) bs r4 bf_one (by omega) (by omega) (fun _ => rfl) fun g5 l5 m5 => ?_
  have l5 : Byt g5 base B m d' (lay N o bs) := by
    have : lay N o bs = List.take o N ++ bs ++ List.drop (o + n2) N := by simp [lay, hbl]
    rw [this]; exact l5
  have hB5 : ∀ i, blkOf A i → ¬ blkOf B i := s.dj
  have hC'lt : ∀ i, blkOf C' i → blkOf C i ∨ h.size ≤ i := fun i hi => (d3 i hi).imp id (fun e => Nat.le_trans x12.size e)
  have hA3 : ∀ i, blkOf A3 i → h.size ≤ i := fun i hi => l1.2.base_le hi
  have hold : ∀ i, foot pd A B C ws i → i < h.size := fun i hi => (s.base hi).2
  have hC'p : ¬ blkOf C' pd := fun hi => l3.2.ne_blk b3 (by decide) _ hi rfl
  have uns4 := l3.mod m4 (fun i hi hp => hC'p (by rwa [hp] at hi))
  have uns5 := uns4.mod m5 (uns4.2.disj nowL.2 (by decide))
  have wold : ∀ w ∈ ws, Byt g5 base w.A w.n w.c w.bs := by
    intro w hw
    have h1 := s2.wts w hw
    have h2 := (h1.mod m3 (h1.2.disj s2.uns.2 (by decide)))
    have h3 := h2.mod m4 (fun i hi hp => h2.2.ne_blk b3 (by decide) _ hi hp)
    exact h3.mod m5 (fun i hi => (s.dw w hw i hi).2)
  have wnew : Byt g5 base A3 n2 c3 bs := by
    have hbs : base ≤ h.size := Nat.le_trans s.le (Nat.le_of_lt s.blk.lt)
    have h1 : Byt g2 base A3 n2 c3 bs := Lst.weaken (l1.ext x2) hbs
    have h2 := (h1.mod m3 (h1.2.disj s2.uns.2 (by decide)))
    have h3 := h2.mod m4 (fun i hi hp => h2.2.ne_blk b3 (by decide) _ hi hp)
    exact h3.mod m5 (fun i hi hB => by have := hA3 i hi; have := hold i (.inr (.inr (.inl hB))); omega)
  refine ⟨hl, foot pd A B C' (ws ++ [⟨o, A3, n2, c3, bs⟩]), ⟨A, n, c, B, m, d', C', u + 1, e', ws ++ [⟨o, A3, n2, c3, bs⟩], ⟨b4.mod m5 hBp, s.le, durL.mod m5 s.dj, l5, uns5, ?_, by rw [lay_len (by omega) (by omega)]; exact s.len, s.dj, ?_, ?_, s.byD, lay_isB s.byN hb, ?_, s.small⟩, ?_, fun i => Iff.rfl⟩, ?_, ?_⟩
  · intro w hw
    rcases List.mem_append.1 hw with hw | hw
    · exact wold w hw
    · rw [List.mem_singleton.1 hw]; exact wnew
  · intro w hw i hi
    rcases List.mem_append.1 hw with hw | hw
    · exact s.dw w hw i hi
    · rw [List.mem_singleton.1 hw] at hi
      have h1 := hA3 i hi
      exact ⟨fun e => by have := hold i (.inr (.inl e)); omega, fun e => by have := hold i (.inr (.inr (.inl e))); omega⟩
  · intro w hw
    rcases List.mem_append.1 hw with hw | hw
    · exact s.inb w hw
    · rw [List.mem_singleton.1 hw]; exact ⟨by simp, by simp only; omega⟩
  · intro w hw
    rcases List.mem_append.1 hw with hw | hw
    · exact s.byW w hw
    · rw [List.mem_singleton.1 hw]; exact hb
  · unfold plus; rw [if_neg hne, hUw]; simp
  · rintro i (rfl | hi | hi | hi | ⟨w, hw, hi⟩)
    · exact .inl ((hS _).2 (.inl rfl))
    · exact .inl ((hS _).2 (.inr (.inl hi)))
    · exact .inl ((hS _).2 (.inr (.inr (.inl hi))))
    · exact (hC'lt i hi).imp (fun e => (hS _).2 (.inr (.inr (.inr (.inl e))))) id
    · rcases List.mem_append.1 hw with hw | hw
      · exact .inl ((hS _).2 (.inr (.inr (.inr (.inr ⟨w, hw, hi⟩)))))
      · rw [List.mem_singleton.1 hw] at hi; exact .inr (hA3 i hi)
  · refine x12.mod.trans ((m3.mono fun i _ hi => (hS i).2 (.inr (.inr (.inr (.inl hi))))).trans ((m4.mono fun i _ hi => (hS i).2 (.inl hi)).trans (m5.mono fun i _ hi => (hS i).2 (.inr (.inr (.inl hi))))))
end
end Go.Proofs.Ytfeodnhklibegaa
