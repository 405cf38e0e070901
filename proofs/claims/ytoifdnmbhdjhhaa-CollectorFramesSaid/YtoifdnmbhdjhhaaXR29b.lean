/- What is proved: the law's own statement, for every input. No conditions. -/
import Derived.Test.YtoifdnmbhdjhhaaRows
import Derived.Test.YtoifdnmbhdjhhaaXOctR
import Derived.Test.YtoifdnmbhdjhhaaXK29j
set_option linter.unusedVariables false
set_option linter.unusedSimpArgs false
namespace Go.Proofs.Ytoifdnmbhdjhhaa.CollectorFramesR
open Go.Oct Go.ChangeShapes Go.WideShapes Go.ChangeAt Go.RowKit
open Go.ChangeMaps (open_string shut_string)
theorem own : ownKnob Try.prog.godebug = none := by kernel_rfl
theorem laidOut : laidOutB Try.prog = true := by kernel_rfl
set_option maxRecDepth 100000 in
theorem lifted (os : Os) (started : os.Started) (H : Type) (enc : TypeId × Value → H) :
    ReturnsInHanded {} Try.checked os 4 .any (Rows.collectorFramesSpec.pre6 enc Try.prog Try.f4 Rows.collectorFramesRow.domain false) (Rows.collectorFramesSpec.post enc Try.prog Try.f4 false true false false) := by
  refine returnsInHanded_of_change_sized (C := Try.checked) own started (by kernel_rfl) Try.func4
    (ChangeSpec.witness6 (enc := enc) (C := Try.checked) false ⟨#[], #[.agg #[.int .u32 0, .int .u64 0, .int .u32 0, .slice none 0 0], .agg #[.int .u32 0, .int .u32 0, .int .u64 0], .agg #[.int .u32 0, .int .u64 0], .slice none 0 0], []⟩ 8 (by kernel_rfl) (by kernel_rfl) (by kernel_rfl) (by kernel_rfl)) ?_
  intro W base args ds gs before hval0 hW hcnd hsz0 _
  have hsz : (DataW.weightsEach Try.prog (Try.f4.params.toList ++ Rows.collectorFramesSpec.plain.varTypes Try.prog) (ds ++ gs)).all (· ≤ reachBytes) = true := hsz0
  have hval : ∀ (j : Nat) t v, Try.f4.params[j]? = some t → args[j]? = some v → Value.okWide Try.prog W .any base t v := hval0
  have hW' := hW
  obtain ⟨p, q, hA0, hV, rfl, hfz, hnd⟩ := hW
  have hA : DataW.TrodAll enc Try.prog W 0 (fun _ => true) true Try.f4.params.toList args.toList ds p := hA0
  rw [Try.params4] at hA hval hsz
  obtain ⟨v0, vs0, d0, ds0, p0, q0, hargs, rfl, rfl, h0, t0⟩ := trodAll_cons hA
  obtain ⟨v1, vs1, d1, ds1, p1, q1, rfl, rfl, rfl, h1, t1⟩ := trodAll_cons t0
  obtain ⟨v2, vs2, d2, ds2, p2, q2, rfl, rfl, rfl, h2, t2⟩ := trodAll_cons t1
  obtain ⟨v3, vs3, d3, ds3, p3, q3, rfl, rfl, rfl, h3, t3⟩ := trodAll_cons t2
  obtain ⟨rfl, rfl, rfl⟩ := trodAll_nil t3
  obtain rfl : args = #[v0, v1, v2, v3] := by cases args; simp_all
  obtain ⟨rfl, rfl⟩ := trodVars_none hV
  have k0 := h0
  have lt0 : ∀ x ∈ p0, x.block < W.heap.size := by obtain ⟨m, hm⟩ := k0; exact DataW.trod_lt m _ _ _ hm
  obtain ⟨cs0, rfl⟩ : ∃ cs, v0 = .agg cs := by
    have hv := (hval 0 32 v0 rfl rfl)
    unfold Value.okWide at hv
    rw [Try.underlying32] at hv
    obtain ⟨cs, e, _⟩ := hv
    exact ⟨cs, e⟩
  have s0 : Rb enc Try.prog W 32 cs0.toList := rb_of h0
  have k1 := h1
  have lt1 : ∀ x ∈ p1, x.block < W.heap.size := by obtain ⟨m, hm⟩ := k1; exact DataW.trod_lt m _ _ _ hm
  obtain ⟨cs1, rfl⟩ : ∃ cs, v1 = .agg cs := by
    have hv := (hval 1 36 v1 rfl rfl)
    unfold Value.okWide at hv
    rw [Try.underlying36] at hv
    obtain ⟨cs, e, _⟩ := hv
    exact ⟨cs, e⟩
  have s1 : Rb enc Try.prog W 36 cs1.toList := rb_of h1
  have k2 := h2
  have lt2 : ∀ x ∈ p2, x.block < W.heap.size := by obtain ⟨m, hm⟩ := k2; exact DataW.trod_lt m _ _ _ hm
  obtain ⟨cs2, rfl⟩ : ∃ cs, v2 = .agg cs := by
    have hv := (hval 2 28 v2 rfl rfl)
    unfold Value.okWide at hv
    rw [Try.underlying28] at hv
    obtain ⟨cs, e, _⟩ := hv
    exact ⟨cs, e⟩
  have s2 : Rb enc Try.prog W 28 cs2.toList := rb_of h2
  have k3 := h3
  have lt3 : ∀ x ∈ p3, x.block < W.heap.size := by obtain ⟨m, hm⟩ := k3; exact DataW.trod_lt m _ _ _ hm
  obtain ⟨a3, len3, cap3, rfl⟩ := okWide_slice Try.underlying30 (hval 3 30 v3 rfl rfl)
  obtain ⟨z3, r3, w3, y3, c3⟩ := ints_row hsz (j := 3) (t := 30) rfl rfl Try.underlying30 Try.underlying5 (by kernel_rfl) (B := 1) (by kernel_rfl) h3
  have wk : callK Try.prog 4 #[.agg cs0, .agg cs1, .agg cs2, .slice a3 len3 cap3] W.heap fun v h' => v = .bool true ∧ Ext W.heap h' := by
    obtain ⟨E, N, P, A, n, c, bs, e0, hE, hN, hP, hr, hb⟩ := ent_of s0
    obtain ⟨D, E1, N1, e1, hD, hE1, hN1⟩ := ack_of s1
    obtain ⟨Em, Nm, e2, _, _⟩ := mark_of s2
    obtain rfl := arr_of e0
    obtain rfl := arr_of e1
    obtain rfl := arr_of e2
    exact c4 E N P A n c bs D E1 N1 Em Nm a3 len3 cap3 z3 W.heap _ hE hN hP hD hE1 hN1 hr hb r3 c3 (fun x hx => by have := bounds_u8 (w3 x hx); unfold isB; omega) fun h' e => ⟨rfl, e⟩
  refine (walk_of (wk)).mono fun e W' ⟨he, bel⟩ => ?_
  subst he
  exact ⟨_, rfl, _, _, _, [], _, [], hW', trodAll_mk1 (shut_bool Try.underlying4 _), (trodAll_cons_mk (Below.trod laidOut (by kernel_rfl) (of_decide_eq_true (by kernel_rfl)) k0 bel lt0) (trodAll_cons_mk (Below.trod laidOut (by kernel_rfl) (of_decide_eq_true (by kernel_rfl)) k1 bel lt1) (trodAll_cons_mk (Below.trod laidOut (by kernel_rfl) (of_decide_eq_true (by kernel_rfl)) k2 bel lt2) (trodAll_cons_mk (Below.trod laidOut (by kernel_rfl) (of_decide_eq_true (by kernel_rfl)) k3 bel lt3) trodAll_mk0)))), rfl, bel.frame _, fun h => by cases h⟩
theorem over : Rows.collectorFramesRow.holds Try.pinned (OpenSpec.ofChange Rows.collectorFramesSpec) :=
  OpenClaim.holds_of_wide 4 Try.f4 rfl rfl rfl rfl rfl rfl rfl ⟨rfl, rfl, rfl, rfl, rfl⟩ rfl rfl rfl rfl rfl (by kernel_rfl) Try.func4 (by kernel_rfl)
    (of_decide_eq_true (by kernel_rfl)) (by unfold Func.isWrapper; first | (rw [if_pos (by decide +kernel)]; kernel_rfl) | (rw [if_neg (by decide +kernel)]; exact ⟨rfl, rfl⟩))
    (fun os started H enc _ => lifted os started H enc)
end Go.Proofs.Ytoifdnmbhdjhhaa.CollectorFramesR
namespace Go.Proofs.Ytoifdnmbhdjhhaa
/-- The law's own statement. -/
theorem collectorFrames_holds : Rows.CollectorFramesSaid := CollectorFramesR.over
end Go.Proofs.Ytoifdnmbhdjhhaa
