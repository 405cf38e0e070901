/- What is proved: contracts of functions that the law calls, and of the law itself, over any heap. Conditions stand in each theorem. -/
import Derived.Test.YtfeodnhklibegaaXK13e
set_option linter.unusedSimpArgs false
set_option linter.unusedVariables false
namespace Go.Proofs.Ytfeodnhklibegaa
open Go.Oct Go.Oct.L01
section
variable {h : H} {base pd : Nat} {S : Nat → Prop} {D N : List Int} {U : List (Int × List Int)}
/-- Copy -/
theorem c17 (d : Dk h base pd S D N U) (hU : U.length ≤ 1073741824) (k : Value → H → Prop) (hk : ∀ p S' h', Ext h h' → Dk h' h.size p S' D N U → k (.pointer (some ⟨p, 0, none⟩)) h') : callK Try.prog 17 #[.pointer (some ⟨pd, 0, none⟩)] h k := by
  have d0 := d
  obtain ⟨A, n, c, B, m, d', C, u, e, ws, s, hUw, hS⟩ := d
  refine call17 _ _ _ ?_
  unfold d17
  rw [needK_true (by simp)]
  refine ifB_of (fun hA => by simp at hA) (fun _ => draw_ext ?_)
  rw [nilK_some, addrK_mk]
  refine s.blk.at_.loadS1 0 rfl rfl (asS_of ?_)
  rw [nilK_some, addrK_mk]
  refine s.blk.at_.loadS1 1 rfl rfl (asS_of ?_)
  have hn : D.length = n := s.dur.1
  have hm : N.length = m := s.now.1
  have hsm := s.small
  have hlen := s.len
  refine c29 A n c D h _ (Lst.row (f := bf) s.dur) (by omega) fun A1 c1 g1 x1 l1 => asS_of ⟨x1, ?_⟩
  refine c29 B m d' N g1 _ (Lst.row (f := bf) (s.now.ext x1)) (by omega) fun B1 d1 g2 x2 l2 => asS_of ?_
  have x12 := x1.trans x2
  refine c16 (d0.ext x12) hU _ fun C1 u1 e1 vs g3 x3 wv => asS_of ?_
  refine alloc_new fun p g4 y4 b4 x4 => ?_
  have x13 := x12.trans x3
  have x14 := x13.trans x4
  have hs1 := x1.size
  have hs2 := x2.size
  have hs12 := x12.size
  have l1' : Byt g4 h.size A1 n c1 D := l1.ext (x2.trans (x3.trans x4))
  have l2' : Byt g4 h.size B1 m d1 N := Lst.weaken (l2.ext (x3.trans x4)) hs1
  have hAlt : ∀ i, blkOf A1 i → i < g1.size := fun i hi => l1.2.lt hi
  have hBlt : ∀ i, blkOf B1 i → g1.size ≤ i ∧ i < g2.size := fun i hi => ⟨l2.2.base_le hi, l2.2.lt hi⟩
  have hvs : ∀ v ∈ vs, ∃ w ∈ ws, v.At = w.At ∧ v.bs = w.bs := by
    intro v hv
    have h1 : (v.At, v.bs) ∈ U := by rw [wv.eq]; exact List.mem_map.2 ⟨v, hv, rfl⟩
    rw [hUw] at h1
    obtain ⟨w, hw, e⟩ := List.mem_map.1 h1
    simp only [Prod.mk.injEq] at e
    exact ⟨w, hw, e.1.symm, e.2.symm⟩
  refine hk p _ g4 x14 ⟨A1, n, c1, B1, m, d1, C1, u1, e1, vs, ⟨b4, Nat.le_trans x13.size y4, l1', l2', ⟨wv.uns.1, (wv.uns.2.ext x4).weaken hs12⟩, ?_, hlen, ?_, ?_, ?_, s.byD, s.byN, ?_, hsm⟩, wv.eq, fun i => Iff.rfl⟩
  · intro v hv
    exact Lst.weaken ((wv.wts v hv).ext x4) hs12
  · intro i hi hj
    have h1 := hAlt i hi
    have h2 := hBlt i hj
    omega
  · intro v hv i hi
    have h1 := (wv.wts v hv).2.base_le hi
    exact ⟨fun e => by have := hAlt i e; omega, fun e => by have := (hBlt i e).2; omega⟩
  · intro v hv
    obtain ⟨w, hw, e1, e2⟩ := hvs v hv
    rw [e1, e2]
    exact s.inb w hw
  · intro v hv
    obtain ⟨w, hw, e1, e2⟩ := hvs v hv
    rw [e2]
    exact s.byW w hw
end
end Go.Proofs.Ytfeodnhklibegaa
