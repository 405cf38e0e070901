/- What is proved: contracts of functions that the law calls, and of the law itself, over any heap. Conditions stand in each theorem. -/
import Derived.Test.YtoifdnmbhdjhhaaXKB29
set_option linter.unusedSimpArgs false
set_option linter.unusedVariables false
namespace Go.Proofs.Ytoifdnmbhdjhhaa
open Go.Oct

def vold (E N E2 M : Int) : Bool := decide (E < E2) || (decide (E = E2) && decide (N < M))
def veq (E N E2 M : Int) : Bool := decide (E = E2) && decide (N = M)
def vnew (E N P E2 M : Int) : Bool := decide (E2 < E) && (decide (P < E2) || (decide (P = E2) && decide (N ≤ M)))
def verdict (E N P E2 M : Int) : Int := if vold E N E2 M = true then 2 else if veq E N E2 M = true then 1 else if vnew E N P E2 M = true then 1 else 3
theorem c22 (E N P E2 M : Int) (b : Value) (h : H) (k : Value → H → Prop) (hk : ∀ h', Ext h h' → k (.bool (vold E N E2 M)) h') :
    callK Try.prog 22 #[.agg #[.int .u32 E, .int .u64 N, .int .u32 P, b], .agg #[.int .u32 E2, .int .u64 M]] h k := by
  refine call22 _ _ _ _ ?_
  unfold d22
  refine alloc_new fun b1 h1 _ hb1 e1 => alloc_new fun b2 h2 _ hb2 e2 => ?_
  have hb1 := hb1.ext e2
  have hk2 := hk h2 (e1.trans e2)
  clear hk
  simp only [vold] at hk2
  simp only [addrK_some, load1_some, add_mk, hb1.cell, hb2.cell]
  simp [asI_mk]
  simp only [beq_dec]
  repeat' refine ifB_dec (fun _ => ?_) (fun _ => ?_)
  all_goals first | exact hk2 | simp_all
theorem c23 (E N P E2 M : Int) (b : Value) (h : H) (k : Value → H → Prop) (hk : ∀ h', Ext h h' → k (.bool (veq E N E2 M)) h') :
    callK Try.prog 23 #[.agg #[.int .u32 E, .int .u64 N, .int .u32 P, b], .agg #[.int .u32 E2, .int .u64 M]] h k := by
  refine call23 _ _ _ _ ?_
  unfold d23
  refine alloc_new fun b1 h1 _ hb1 e1 => alloc_new fun b2 h2 _ hb2 e2 => ?_
  have hb1 := hb1.ext e2
  have hk2 := hk h2 (e1.trans e2)
  clear hk
  simp only [veq] at hk2
  simp only [addrK_some, load1_some, add_mk, hb1.cell, hb2.cell]
  simp [asI_mk]
  simp only [beq_dec]
  repeat' refine ifB_dec (fun _ => ?_) (fun _ => ?_)
  all_goals first | exact hk2 | simp_all
theorem c24 (E N P E2 M : Int) (b : Value) (h : H) (k : Value → H → Prop) (hk : ∀ h', Ext h h' → k (.bool (vnew E N P E2 M)) h') :
    callK Try.prog 24 #[.agg #[.int .u32 E, .int .u64 N, .int .u32 P, b], .agg #[.int .u32 E2, .int .u64 M]] h k := by
  refine call24 _ _ _ _ ?_
  unfold d24
  refine alloc_new fun b1 h1 _ hb1 e1 => alloc_new fun b2 h2 _ hb2 e2 => ?_
  have hb1 := hb1.ext e2
  have hk2 := hk h2 (e1.trans e2)
  clear hk
  simp only [vnew] at hk2
  simp only [addrK_some, load1_some, add_mk, hb1.cell, hb2.cell]
  simp [asI_mk]
  simp only [beq_dec]
  repeat' refine ifB_dec (fun _ => ?_) (fun _ => ?_)
  all_goals first | exact hk2 | simp_all

/-- the rules' cells -/
def rules : Array Value := #[.func (.func 22) #[] #[], .int .i64 2, .func (.func 23) #[] #[], .int .i64 1, .func (.func 24) #[] #[], .int .i64 1]
theorem rules_fill : Instr.fill (fun i => some (i * 2, 2)) (List.toArray [.nilFunc, .int .i64 0, .nilFunc, .int .i64 0, .nilFunc, .int .i64 0]) [(0, (.agg (List.toArray [(.func (.func 22) #[] #[]), (.int .i64 2)]))), (1, (.agg (List.toArray [(.func (.func 23) #[] #[]), (.int .i64 1)]))), (2, (.agg (List.toArray [(.func (.func 24) #[] #[]), (.int .i64 1)])))] = some rules := by
  simp [Instr.fill, Value.cells, rules, List.zipIdx]
theorem c7 (E N P E2 M : Int) (b : Value) (h : H) (k : Value → H → Prop) (hk : ∀ h', Ext h h' → k (.int .i64 (verdict E N P E2 M)) h') :
    callK Try.prog 7 #[.agg #[.int .u32 E, .int .u64 N, .int .u32 P, b], .agg #[.int .u32 E2, .int .u64 M]] h k := by
  refine call7 _ _ _ _ ?_
  unfold d7
  refine alloc_new fun b1 h1 _ hb1 e1 => alloc_new fun b2 h2 _ hb2 e2 => ?_
  have hb1 := hb1.ext e2
  refine ⟨rules, rules_fill, ?_⟩
  refine alloc_new fun b5 h5 l5 hb5 e5 => store_blk hb5 rfl (by simp) (by simp [OneCells, rules, Value.oneCell']) fun h6 hb6 m6 => ?_
  have e6 : Ext h2 h6 := e5.then m6 (fun i hi => by subst hi; exact l5)
  have hb1 := hb1.ext e6
  have hb2 := hb2.ext e6
  refine ⟨_, rules, rfl, rfl, fun j hj => by rw [add_mk, hb6.cell, Nat.zero_add]; rfl, ?_⟩
  refine ⟨fun x y g => x = 0 ∧ 0 ≤ y ∧ y ≤ 3 ∧ Ext h6 g ∧ (1 ≤ y → vold E N E2 M = false) ∧ (2 ≤ y → veq E N E2 M = false) ∧ (3 ≤ y → vnew E N P E2 M = false), fun x y g => (3 - y).toNat, ⟨rfl, by omega, by omega, Ext.refl _, by omega, by omega, by omega⟩, ?_⟩
  rintro x y g ⟨rfl, h0, h3, eg, f1, f2, f3⟩
  refine ifB_dec (fun hy => ?_) (fun hy => ?_)
  · obtain rfl | rfl | rfl : y = 0 ∨ y = 1 ∨ y = 2 := by omega
    all_goals
      refine ⟨by omega, by omega, ?_⟩
      refine alloc_new fun b7 h7 l7 hb7 e7 => store_blk hb7 rfl (by simp) (by simp [OneCells, rules, Value.cells, Value.oneCell']) fun h8 hb8 m8 => ?_
      have e8 : Ext g h8 := e7.then m8 (fun i hi => by subst hi; exact l7)
      have hb1 := (hb1.ext eg).ext e8
      have hb2 := (hb2.ext eg).ext e8
      have eh : Ext h h8 := e1.trans (e2.trans (e6.trans (eg.trans e8)))
      simp [over, rules, Value.cells] at hb8
      simp only [addrK_some, load1_some, add_mk, hb8.cell]
      simp [asF_mk]
      refine ⟨_, #[.int .u32 E, .int .u64 N, .int .u32 P, b], rfl, rfl, fun j hj => by rw [add_mk, hb1.cell, Nat.zero_add], ?_⟩
      refine ⟨_, #[.int .u32 E2, .int .u64 M], rfl, rfl, fun j hj => by rw [add_mk, hb2.cell, Nat.zero_add], ?_⟩
      first | refine c22 _ _ _ _ _ _ _ _ fun h9 e9 => ?_ | refine c23 _ _ _ _ _ _ _ _ fun h9 e9 => ?_ | refine c24 _ _ _ _ _ _ _ _ fun h9 e9 => ?_
      rw [asB_mk]
      have hb9 := hb8.ext e9
      simp only [addrK_some, load1_some, add_mk, hb9.cell]
      simp [asI_mk]
      have hk9 := hk h9 (eh.trans e9)
      simp only [verdict] at hk9
    · cases ho : vold E N E2 M
      · exact ⟨⟨rfl, by simp [wrap64_id], by simp [wrap64_id], eg.trans (e8.trans e9), by simp [ho], by simp [wrap64_id], by simp [wrap64_id]⟩, by simp [wrap64_id]⟩
      · simpa [ifB, ho] using hk9
    · have f1 := f1 (by omega)
      cases ho : veq E N E2 M
      · exact ⟨⟨rfl, by simp [wrap64_id], by simp [wrap64_id], eg.trans (e8.trans e9), by simp [f1], by simp [ho], by simp [wrap64_id]⟩, by simp [wrap64_id]⟩
      · simpa [ifB, ho, f1] using hk9
    · have f1 := f1 (by omega)
      have f2 := f2 (by omega)
      cases ho : vnew E N P E2 M
      · exact ⟨⟨rfl, by simp [wrap64_id], by simp [wrap64_id], eg.trans (e8.trans e9), by simp [f1], by simp [f2], by simp [ho]⟩, by simp [wrap64_id]⟩
      · simpa [ifB, ho, f1, f2] using hk9
  · have h9 := hk g (e1.trans (e2.trans (e6.trans eg)))
    simp only [verdict, f1 (by omega), f2 (by omega), f3 (by omega)] at h9
    simpa using h9

theorem ext_ne {a b : H} {i : Nat} {S : Prop} (h : S) : S := h
/-- works -/
theorem c5 (h : H) (k : Value → H → Prop) (hk : ∀ h', Ext h h' → k (.bool true) h') : callK Try.prog 5 #[] h k := by
  refine call5 _ _ ?_
  unfold d5
  refine alloc_new fun p5 h5 _ b5 e5 => alloc_new fun p6 h6 _ b6 e6 => alloc_new fun p7 h7 _ b7 e7 => alloc_new fun p8 h8 _ b8 e8 => alloc_new fun p9 h9 _ b9 e9 => alloc_new fun p10 h10 _ b10 e10 => alloc_new fun p11 h11 _ b11 e11 => alloc_new fun p12 h12 _ b12 e12 => alloc_new fun p13 h13 _ b13 e13 => alloc_new fun p14 h14 _ b14 e14 => alloc_new fun p15 h15 _ b15 e15 => alloc_new fun p16 h16 _ b16 e16 => alloc_new fun p17 h17 _ b17 e17 => ?_
  have b16 := b16.ext e17
  have e16 := e16.trans e17
  have b15 := b15.ext e16
  have e15 := e15.trans e16
  have b14 := b14.ext e15
  have e14 := e14.trans e15
  have b13 := b13.ext e14
  have e13 := e13.trans e14
  have b12 := b12.ext e13
  have e12 := e12.trans e13
  have b11 := b11.ext e12
  have e11 := e11.trans e12
  have b10 := b10.ext e11
  have e10 := e10.trans e11
  have b9 := b9.ext e10
  have e9 := e9.trans e10
  have b8 := b8.ext e9
  have e8 := e8.trans e9
  have b7 := b7.ext e8
  have e7 := e7.trans e8
  have b6 := b6.ext e7
  have e6 := e6.trans e7
  have b5 := b5.ext e6
  have e5 := e5.trans e6
  clear e6 e7 e8 e9 e10 e11 e12 e13 e14 e15 e16 e17
  refine ⟨fun b x g => b = false ∧ 0 ≤ x ∧ x ≤ 12 ∧ Ext h17 g, fun b x g => (12 - x).toNat, ⟨rfl, by omega, by omega, Ext.refl _⟩, ?_⟩
  rintro bb x g ⟨rfl, h0, h3, eg⟩
  have b16 := b16.ext eg
  have b15 := b15.ext eg
  have b14 := b14.ext eg
  have b13 := b13.ext eg
  have b12 := b12.ext eg
  have b11 := b11.ext eg
  have b10 := b10.ext eg
  have b9 := b9.ext eg
  have b8 := b8.ext eg
  have b7 := b7.ext eg
  have b6 := b6.ext eg
  have b5 := b5.ext eg
  have b17 := b17.ext eg
  refine ifB_dec (fun hy => ?_) (fun hy => ?_)
  · obtain rfl | rfl | rfl | rfl | rfl | rfl | rfl | rfl | rfl | rfl | rfl | rfl : x = 0 ∨ x = 1 ∨ x = 2 ∨ x = 3 ∨ x = 4 ∨ x = 5 ∨ x = 6 ∨ x = 7 ∨ x = 8 ∨ x = 9 ∨ x = 10 ∨ x = 11 := by omega
    all_goals
      rw [indexK_some]
      refine ⟨by omega, by omega, ?_⟩
      rw [load1_blk b17]
      simp only [Int.reduceToNat, Nat.zero_add, Nat.mul_one, List.getElem?_toArray, List.getElem?_cons_zero, List.getElem?_cons_succ, Option.some.injEq, exists_eq_left', asS_mk]
      refine draw_ext ?_
      simp only [indexK_some, loadS1_ext b5, loadS1_ext b6, loadS1_ext b7, loadS1_ext b8, loadS1_ext b9, loadS1_ext b10, loadS1_ext b11, loadS1_ext b12, loadS1_ext b13, loadS1_ext b14, loadS1_ext b15, loadS1_ext b16]
      simp [asI_mk]
      refine alloc_new fun p4 g4 l4 b4 e4 => ⟨e4, store_blk b4 rfl (by simp) (by simp [OneCells, Value.oneCell']) fun g3 b4' m4 => ?_⟩
      have e3 : Ext g g3 := e4.then m4 (fun i hi => by subst hi; exact l4)
      simp [over] at b4'
      refine draw_ext ?_
      rw [loadSN_ext b4' (by simp)]
      have b5 := b5.ext e3
      have b6 := b6.ext e3
      have b7 := b7.ext e3
      have b8 := b8.ext e3
      have b9 := b9.ext e3
      have b10 := b10.ext e3
      have b11 := b11.ext e3
      have b12 := b12.ext e3
      have b13 := b13.ext e3
      have b14 := b14.ext e3
      have b15 := b15.ext e3
      have b16 := b16.ext e3
      simp only [indexK_some, loadS1_ext b5, loadS1_ext b6, loadS1_ext b7, loadS1_ext b8, loadS1_ext b9, loadS1_ext b10, loadS1_ext b11, loadS1_ext b12, loadS1_ext b13, loadS1_ext b14, loadS1_ext b15, loadS1_ext b16]
      simp [asI_mk, IntKind.wrap_u32]
      refine c7 _ _ _ _ _ _ _ _ fun g2 e2 => ?_
      rw [asI_mk]
      exact ⟨e2, ⟨rfl, by simp [IntKind.wrap_i64], by simp [IntKind.wrap_i64], eg.trans (e3.trans e2)⟩, by simp [IntKind.wrap_i64]⟩
  · exact hk g (e5.trans eg)
end Go.Proofs.Ytoifdnmbhdjhhaa
