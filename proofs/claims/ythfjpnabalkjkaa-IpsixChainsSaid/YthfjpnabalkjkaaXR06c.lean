/- What is proved: the law's own statement, for every input. No conditions. -/
import Derived.Test.YthfjpnabalkjkaaRows
import Derived.Test.YthfjpnabalkjkaaXOctR
import Derived.Test.YthfjpnabalkjkaaXK06n
import Derived.Test.YthfjpnabalkjkaaXK06j
set_option linter.unusedVariables false
set_option linter.unusedSimpArgs false
namespace Go.Proofs.Ythfjpnabalkjkaa.IpsixChainsR
open Go.Oct Go.ChangeShapes Go.WideShapes Go.ChangeAt Go.RowKit
open Go.ChangeMaps (open_string shut_string)
theorem own : ownKnob Try.prog.godebug = none := by kernel_rfl
theorem laidOut : laidOutB Try.prog = true := by kernel_rfl
set_option maxRecDepth 100000 in
theorem lifted (os : Os) (started : os.Started) (H : Type) (enc : TypeId × Value → H) :
    ReturnsInHanded {} Try.checked os 5 .any (Rows.ipsixChainsSpec.pre6 enc Try.prog Try.f5 Rows.ipsixChainsRow.domain false) (Rows.ipsixChainsSpec.post enc Try.prog Try.f5 false true false false) := by
  refine returnsInHanded_of_change_sized (C := Try.checked) own started (by kernel_rfl) Try.func5
    (ChangeSpec.witness6 (enc := enc) (C := Try.checked) false ⟨#[], #[.agg #[.slice none 0 0, .int .u8 0], .agg #[.slice none 0 0, .int .u8 0]], []⟩ 8 (by kernel_rfl) (by kernel_rfl) (by kernel_rfl) (by kernel_rfl)) ?_
  intro W base args ds gs before hval0 hW hcnd hsz0 _
  have hsz : (DataW.weightsEach Try.prog (Try.f5.params.toList ++ Rows.ipsixChainsSpec.plain.varTypes Try.prog) (ds ++ gs)).all (· ≤ reachBytes) = true := hsz0
  have hval : ∀ (j : Nat) t v, Try.f5.params[j]? = some t → args[j]? = some v → Value.okWide Try.prog W .any base t v := hval0
  have hW' := hW
  obtain ⟨p, q, hA0, hV, rfl, hfz, hnd⟩ := hW
  have hA : DataW.TrodAll enc Try.prog W 0 (fun _ => true) true Try.f5.params.toList args.toList ds p := hA0
  rw [Try.params5] at hA hval hsz
  obtain ⟨v0, vs0, d0, ds0, p0, q0, hargs, rfl, rfl, h0, t0⟩ := trodAll_cons hA
  obtain ⟨v1, vs1, d1, ds1, p1, q1, rfl, rfl, rfl, h1, t1⟩ := trodAll_cons t0
  obtain ⟨rfl, rfl, rfl⟩ := trodAll_nil t1
  obtain rfl : args = #[v0, v1] := by cases args; simp_all
  obtain ⟨rfl, rfl⟩ := trodVars_none hV
  have k0 := h0
  have lt0 : ∀ x ∈ p0, x.block < W.heap.size := by obtain ⟨m, hm⟩ := k0; exact DataW.trod_lt m _ _ _ hm
  obtain ⟨cs0, rfl⟩ : ∃ cs, v0 = .agg cs := by
    have hv := (hval 0 29 v0 rfl rfl)
    unfold Value.okWide at hv
    rw [Try.underlying29] at hv
    obtain ⟨cs, e, _⟩ := hv
    exact ⟨cs, e⟩
  have s0 : Rb enc Try.prog W 29 cs0.toList := rb_of h0
  have k1 := h1
  have lt1 : ∀ x ∈ p1, x.block < W.heap.size := by obtain ⟨m, hm⟩ := k1; exact DataW.trod_lt m _ _ _ hm
  obtain ⟨cs1, rfl⟩ : ∃ cs, v1 = .agg cs := by
    have hv := (hval 1 29 v1 rfl rfl)
    unfold Value.okWide at hv
    rw [Try.underlying29] at hv
    obtain ⟨cs, e, _⟩ := hv
    exact ⟨cs, e⟩
  have s1 : Rb enc Try.prog W 29 cs1.toList := rb_of h1
  have wk : callK Try.prog 5 #[.agg cs0, .agg cs1] W.heap fun v h' => v = .bool true ∧ Ext W.heap h' := by
    obtain ⟨A1, n1, q1, xs, p, e0, ch⟩ := chain_of s0
    obtain ⟨A2, n2, q2, zs, p', e1, dh⟩ := chain_of s1
    obtain rfl := arr_of e0
    obtain rfl := arr_of e1
    exact c5 ch dh fun h' e => ⟨rfl, e⟩
  refine (walk_of (wk)).mono fun e W' ⟨he, bel⟩ => ?_
  subst he
  exact ⟨_, rfl, _, _, _, [], _, [], hW', trodAll_mk1 (shut_bool Try.underlying4 _), (trodAll_cons_mk (Below.trod laidOut (by kernel_rfl) (of_decide_eq_true (by kernel_rfl)) k0 bel lt0) (trodAll_cons_mk (Below.trod laidOut (by kernel_rfl) (of_decide_eq_true (by kernel_rfl)) k1 bel lt1) trodAll_mk0)), rfl, bel.frame _, fun h => by cases h⟩
theorem over : Rows.ipsixChainsRow.holds Try.pinned (OpenSpec.ofChange Rows.ipsixChainsSpec) :=
  OpenClaim.holds_of_wide 5 Try.f5 rfl rfl rfl rfl rfl rfl rfl ⟨rfl, rfl, rfl, rfl, rfl⟩ rfl rfl rfl rfl rfl (by kernel_rfl) Try.func5 (by kernel_rfl)
    (of_decide_eq_true (by kernel_rfl)) (by unfold Func.isWrapper; first | (rw [if_pos (by decide +kernel)]; kernel_rfl) | (rw [if_neg (by decide +kernel)]; exact ⟨rfl, rfl⟩))
    (fun os started H enc _ => lifted os started H enc)
end Go.Proofs.Ythfjpnabalkjkaa.IpsixChainsR
namespace Go.Proofs.Ythfjpnabalkjkaa
/-- The law's own statement. -/
theorem ipsixChains_holds : Rows.IpsixChainsSaid := IpsixChainsR.over
end Go.Proofs.Ythfjpnabalkjkaa
