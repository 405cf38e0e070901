/- What is proved: contracts of functions that the law calls, and of the law itself, over any heap. Conditions stand in each theorem. -/
import Derived.Test.YteagahchpblfkaaXOctR
import Derived.Test.YteagahchpblfkaaXK01g
set_option linter.unusedSimpArgs false
set_option linter.unusedVariables false
namespace Go.Proofs.Yteagahchpblfkaa
open Go.Oct Go.Oct.L01

/-- a call of a writer -/
structure Act where
  Do : Int
  At : Int
  V : Int
  Size : Int
  A : Option Addr
  n : Nat
  c : Nat
  bs : List Int
def Act.cells (a : Act) : List Value := [.int .i64 a.Do, .int .i64 a.At, .int .u64 a.V, .int .i64 a.Size, .slice a.A a.n a.c]
theorem Act.len (a : Act) : a.cells.length = 5 := rfl
structure Act.ok (h : H) (a : Act) : Prop where
  at0 : -9223372036854775808 ≤ a.At
  at1 : a.At ≤ 9223372036854775807
  v0 : 0 ≤ a.V
  v1 : a.V < 18446744073709551616
  row : RowH h a.A a.n (a.bs.map bf).toArray
  byt : ∀ x ∈ a.bs, isB x
  nc : a.n ≤ a.c
theorem Act.ok.ext {h h' : H} {a : Act} (o : a.ok h) (x : Ext h h') : a.ok h' := { o with row := o.row.ext x }

theorem act_of {H : Type} {enc : TypeId × Value → H} {W : World} {cs : List Value} (hr : Rb enc Try.prog W 35 cs) : ∃ a : Act, cs = a.cells ∧ a.ok W.heap := by
  obtain ⟨hl, hf⟩ := rb_struct Try.underlying35 hr
  have c3 : Try.prog.cellsOf 3 = 1 := by kernel_rfl
  have c23 : Try.prog.cellsOf 23 = 1 := by kernel_rfl
  have c22 : Try.prog.cellsOf 22 = 1 := by kernel_rfl
  have c35 : Try.prog.cellsOf 35 = 5 := by kernel_rfl
  have c5 : Try.prog.cellsOf 5 = 1 := by kernel_rfl
  rw [c35] at hl
  obtain ⟨w0, w1, w2, w3, w4, rfl⟩ : ∃ a b c d e, cs = [a, b, c, d, e] := match cs, hl with
    | [a, b, c, d, e], _ => ⟨a, b, c, d, e, rfl⟩
  have f0 : Rb enc Try.prog W 3 [w0] := rb_field Try.underlying35 hr 0 rfl rfl rfl c3
  have f1 : Rb enc Try.prog W 3 [w1] := rb_field Try.underlying35 hr 1 rfl rfl rfl c3
  have f2 : Rb enc Try.prog W 23 [w2] := rb_field Try.underlying35 hr 2 rfl rfl rfl c23
  have f3 : Rb enc Try.prog W 3 [w3] := rb_field Try.underlying35 hr 3 rfl rfl rfl c3
  have f4 : Rb enc Try.prog W 22 [w4] := rb_field Try.underlying35 hr 4 rfl rfl rfl c22
  obtain ⟨x0, e0, k0⟩ := rb_int Try.underlying3 f0
  obtain ⟨x1, e1, k1⟩ := rb_int Try.underlying3 f1
  obtain ⟨x2, e2, k2⟩ := rb_int Try.underlying23 f2
  obtain ⟨x3, e3, k3⟩ := rb_int Try.underlying3 f3
  obtain ⟨A, n, c, xs, e4, k4, k5, k6, k7⟩ := rb_ints Try.underlying22 Try.underlying5 c5 f4
  cases e0; cases e1; cases e2; cases e3; cases e4
  have k1 := bounds_i64 k1
  have k2 := bounds_u64 k2
  exact ⟨⟨x0, x1, x2, x3, A, n, c, xs⟩, rfl, ⟨k1.1, k1.2, k2.1, by show x2 < _; omega, k6, fun x hx => by have := bounds_u8 (k7 x hx); unfold isB; omega, k4⟩⟩

/-- BitsNone -/
theorem c7 (a : Act) (h : H) (k : Value → H → Prop) (hk : ∀ h', Ext h h' → k (.bool true) h') : callK Try.prog 7 #[.agg a.cells.toArray] h k := by
  refine call7 _ _ _ ?_
  unfold d7
  refine alloc_new fun p h1 _ bp e1 => ?_
  have at_ : At h1 p 0 a.cells := bp.at_
  refine addrK_of rfl (at_.load1 3 rfl rfl (asI_of ?_))
  refine call26 _ _ _ _ ?_
  unfold d26
  rw [needK_true (by simp)]
  refine (show ifB true _ _ from asT2_of (asI_of (asI_of ?_)))
  refine addrK_of rfl (at_.load1 1 rfl rfl (asI_of ?_))
  refine call28 _ _ _ _ ?_
  unfold d28
  rw [needK_true (by simp)]
  refine (show ifB true _ _ from asT2_of (asS_of (asI_of ?_)))
  refine addrK_of rfl (at_.load1 2 rfl rfl (asI_of ?_))
  refine addrK_of rfl (at_.load1 3 rfl rfl (asI_of ?_))
  refine call17 _ _ _ _ _ ?_
  unfold d17
  rw [needK_true (by simp)]
  refine (show ifB true _ _ from asI_of (ifB_eq (fun _ => ?_) (fun hn => absurd rfl hn)))
  refine addrK_of rfl (at_.load1 4 rfl rfl (asS_of ?_))
  refine call20 _ _ _ _ _ _ ?_
  unfold d20
  rw [needK_true (by simp)]
  refine (show ifB true _ _ from asI_of (ifB_eq (fun _ => ?_) (fun hn => absurd rfl hn)))
  refine addrK_of rfl (at_.load1 1 rfl rfl (asI_of ?_))
  refine addrK_of rfl (at_.load1 2 rfl rfl (asI_of ?_))
  refine addrK_of rfl (at_.load1 3 rfl rfl (asI_of ?_))
  refine call21 _ _ _ _ _ _ ?_
  unfold d21
  rw [needK_true (by simp)]
  refine (show ifB true _ _ from asI_of (ifB_eq (fun _ => ?_) (fun hn => absurd rfl hn)))
  refine call22 _ _ _ ?_
  unfold d22
  rw [needK_true (by simp)]
  refine (show ifB true _ _ from asS_of (ifB_eq (fun _ => ?_) (fun hn => absurd rfl hn)))
  refine call24 _ _ _ ?_
  unfold d24
  rw [needK_true (by simp)]
  refine (show ifB true _ _ from asI_of (ifB_eq (fun _ => ifB_eq (fun _ => ifB_eq (fun _ => ?_) (fun hn => absurd rfl hn)) (fun hn => absurd rfl hn)) (fun hn => absurd rfl hn)))
  refine call27 _ _ _ ?_
  unfold d27
  rw [needK_true (by simp)]
  refine (show ifB true _ _ from asI_of (ifB_eq (fun _ => ?_) (fun hn => absurd rfl hn)))
  refine call29 _ _ _ ?_
  unfold d29
  rw [needK_true (by simp)]
  refine (show ifB true _ _ from asI_of (ifB_eq (fun _ => ?_) (fun hn => absurd rfl hn)))
  exact c9 _ _ fun h' e => asB_of (hk h' (e1.trans e))
end Go.Proofs.Yteagahchpblfkaa
