/- What is proved: the plain law, with no program in sight. Conditions stand in each theorem. -/
import Derived.Test.YtkhlollengamdaaXL09
set_option linter.unusedSimpArgs false
set_option linter.unusedVariables false
namespace Go.Oct.L09
open Go.Oct
def mT (t : Int) : Int := IntKind.wrap .u8 (shrK .u16 65280 t)
theorem masks : ∀ t : Fin 9, ∀ u : Fin 9, u ≤ t → (BitVec.ofInt 8 (mT (t.val : Int)) &&& BitVec.ofInt 8 (mT (u.val : Int))) = BitVec.ofInt 8 (mT (u.val : Int)) := by decide +kernel
theorem and_and {x m n : Int} (h : (BitVec.ofInt 8 m &&& BitVec.ofInt 8 n) = BitVec.ofInt 8 n) : bitK .and .u8 (bitK .and .u8 x m) n = bitK .and .u8 x n := by
  have e : ∀ v : BitVec 8, BitVec.ofInt 8 (IntKind.wrap .u8 (v.toNat : Int)) = v := by
    intro v
    have := v.isLt
    rw [IntKind.wrap_u8, Int.emod_eq_of_lt (by omega) (by omega)]
    apply BitVec.eq_of_toNat_eq
    rw [BitVec.toNat_ofInt]
    omega
  show IntKind.wrap .u8 ((BitVec.ofInt 8 (IntKind.wrap .u8 ((BitVec.ofInt 8 x &&& BitVec.ofInt 8 m).toNat : Int)) &&& BitVec.ofInt 8 n).toNat : Int) = IntKind.wrap .u8 ((BitVec.ofInt 8 x &&& BitVec.ofInt 8 n).toNat : Int)
  rw [e, BitVec.and_assoc, h]
theorem mB_mB {m m' : Int} (h : m' ≤ m) (i : Nat) (x : Int) : mB m' i (mB m i x) = mB m' i x := by
  unfold mB mk
  refine and_and ?_
  have b : ∀ y : Int, 0 ≤ maxI 0 (minI y 8) ∧ maxI 0 (minI y 8) ≤ 8 := by
    intro y; unfold maxI minI; split <;> split at * <;> omega
  have hm : maxI 0 (minI (m' - 8 * i) 8) ≤ maxI 0 (minI (m - 8 * i) 8) := by
    simp only [maxI, minI]
    split <;> split <;> (first | omega | (split <;> first | omega | (split <;> first | omega | (split <;> omega))))
  have b1 := b (m - 8 * i)
  have b2 := b (m' - 8 * i)
  generalize maxI 0 (minI (m' - 8 * i) 8) = u at *
  generalize maxI 0 (minI (m - 8 * i) 8) = t at *
  have := masks ⟨t.toNat, by omega⟩ ⟨u.toNat, by omega⟩ (by rw [Fin.le_def]; dsimp only; omega)
  dsimp only at this
  rw [Int.toNat_of_nonneg b1.1, Int.toNat_of_nonneg b2.1] at this
  exact this
theorem cutB_cutB {b : List Int} {m m' : Int} (h : m' ≤ m) : cutB (cutB b m) m' = cutB b m' := by
  unfold cutB
  apply List.ext_getElem
  · simp
  · intro i h1 h2
    simp only [List.getElem_mapIdx]
    exact mB_mB h i _
theorem within_has {p q : Pf} {a : Ad} (hw : within p q = true) (ha : p.has a = true) : q.has a = true := by
  unfold within at hw
  unfold Pf.has at ha hw ⊢
  simp only [Bool.and_eq_true, decide_eq_true_eq] at hw ha ⊢
  obtain ⟨_, hn, hq, hpr, hc⟩ := hw
  obtain ⟨_, har, hp⟩ := ha
  refine ⟨hq, har, ?_⟩
  refine Eq.trans ?_ hc
  have h1 : cut a p.n = ⟨⟨a.six, cutB a.b (clip a p.n)⟩, clip a p.n⟩ := by unfold cut; rw [if_pos har]
  have h2 : cut a q.n = ⟨⟨a.six, cutB a.b (clip a q.n)⟩, clip a q.n⟩ := by unfold cut; rw [if_pos har]
  have h3 : cut p.a q.n = ⟨⟨p.a.six, cutB p.a.b (clip p.a q.n)⟩, clip p.a q.n⟩ := by unfold cut; rw [if_pos hpr]
  have hs : p.a = ⟨a.six, cutB a.b (clip a p.n)⟩ := by have := congrArg Pf.a hp; rw [h1] at this; exact this.symm
  have hpn : clip a p.n = p.n := by have := congrArg Pf.n hp; rw [h1] at this; exact this
  have hsz : p.a.size = a.size := by rw [hs]; rfl
  have hcl : clip p.a q.n = clip a q.n := by unfold clip; rw [hsz]
  have hqn : clip a q.n = q.n := by have := congrArg Pf.n hc; rw [h3] at this; rw [← hcl]; exact this
  rw [h2, h3, hcl]
  have e1 : p.a.six = a.six := by rw [hs]
  have e2 : p.a.b = cutB a.b p.n := by rw [hs, hpn]
  rw [e1, e2, hqn, cutB_cutB hn]
theorem ported_le {a b c d : Int} {y : Ky} {n : Int} (ha : isW a) (hb : isW b) (h1 : a ≤ c) (h2 : d ≤ b) (hp : ported c d y n = true) : ported a b y n = true := by
  unfold ported at hp ⊢
  unfold isW at ha hb
  simp only [Bool.or_eq_true, Bool.and_eq_true, decide_eq_true_eq] at hp ⊢
  rcases hp with ⟨h3, h4⟩ | ⟨h3, h4, h5⟩
  · exact .inl ⟨by omega, by omega⟩
  · exact .inr ⟨h3, by omega, by omega⟩
theorem covers_fits {r s : Ru} (or : r.ok) {y : Ky} (hr : r.right = true) (hc : covers r s = true) (hf : fits s y = true) : fits r y = true := by
  unfold fits at hf ⊢
  unfold fitsAll at hf ⊢
  unfold covers at hc
  simp only [Bool.and_eq_true] at hf hc ⊢
  obtain ⟨_, q0, q1, q2, q3, q4, q5⟩ := hf
  obtain ⟨c0, c1, c2, c3, c4, c5⟩ := hc
  refine ⟨hr, ?_, ?_, ?_, ?_, ?_, ?_⟩
  · unfold f0 at q0 ⊢
    unfold h0 at c0
    simp only [Bool.or_eq_true, decide_eq_true_eq] at q0 c0 ⊢
    omega
  · unfold f1 at q1 ⊢
    unfold h1 at c1
    simp only [Bool.or_eq_true, decide_eq_true_eq] at q1 c1 ⊢
    omega
  · unfold f2 at q2 ⊢
    unfold h2 prefixed at c2
    cases hn : r.src.none with
    | true => rfl
    | false =>
      rw [hn, Bool.false_or, Bool.and_eq_true] at c2
      have hs : s.src.none = false := by simpa using c2.1
      rw [hs, Bool.false_or] at q2
      rw [Bool.false_or]
      exact within_has c2.2 q2
  · unfold f3 at q3 ⊢
    unfold h3 prefixed at c3
    cases hn : r.dst.none with
    | true => rfl
    | false =>
      rw [hn, Bool.false_or, Bool.and_eq_true] at c3
      have hs : s.dst.none = false := by simpa using c3.1
      rw [hs, Bool.false_or] at q3
      rw [Bool.false_or]
      exact within_has c3.2 q3
  · unfold f4 at q4 ⊢
    unfold h4 at c4
    simp only [Bool.and_eq_true, decide_eq_true_eq] at c4
    exact ported_le or.slo or.shi c4.1 c4.2 q4
  · unfold f5 at q5 ⊢
    unfold h5 at c5
    simp only [Bool.and_eq_true, decide_eq_true_eq] at c5
    exact ported_le or.dlo or.dhi c5.1 c5.2 q5
theorem any_fits_all (d : Bool) (c : Int) (y : Ky) : fitsAll (anyR d c) y = true := by
  unfold fitsAll f0 f1 f2 f3 f4 f5 ported Pf.none anyR
  simp
end Go.Oct.L09
