/- What is proved: contracts of functions that the law calls, and of the law itself, over any heap. Conditions stand in each theorem. -/
import Derived.Test.YtkhlollengamdaaXL09
import Derived.Test.YtkhlollengamdaaXD09
import Derived.Test.YtkhlollengamdaaWEqStruct
import Derived.Stop.BytesEq
set_option linter.unusedSimpArgs false
set_option linter.unusedVariables false
namespace Go.Proofs.Ytkhlollengamdaa
open Go.Oct Go.Oct.L09 Go.RowKit Go.Proofs.YtkhlollengamdaaW.PrintWords Go.Extern.Stop
theorem wrap64_id {x : Int} (h : -9223372036854775808 ≤ x) (h' : x ≤ 9223372036854775807) : IntKind.wrap .i64 x = x := by rw [IntKind.wrap_i64]; omega
/-! ### '==' -/
def toU (xs : List Int) : List UInt8 := xs.map fun x => UInt8.ofNat x.toNat
theorem toU_cell {xs : List Int} (h : ∀ x ∈ xs, isB x) : ((toU xs).map cell).toArray = (xs.map bf).toArray := by
  congr 1
  unfold toU
  rw [List.map_map]
  refine List.map_congr_left fun x hx => ?_
  have := h x hx
  unfold isB at this
  simp only [Function.comp, cell, bf, UInt8.toNat_ofNat']
  congr 1
  rw [Nat.mod_eq_of_lt (by omega)]
  exact Int.toNat_of_nonneg this.1
theorem toU_eq {xs ys : List Int} (hx : ∀ x ∈ xs, isB x) (hy : ∀ x ∈ ys, isB x) : (toU xs == toU ys) = decide (xs = ys) := by
  have := str_beq hx hy
  have e : ∀ zs : List Int, ByteArray.toList (strOfNums zs) = toU zs := fun zs => by
    rw [ByteArray.toList_eq]; rfl
  rwa [e, e] at this
theorem eqM23 (d : Nat) (w : World) (xs ys : List Int) (hx : xs.length = 16) (hy : ys.length = 16) (bx : ∀ x ∈ xs, isB x) (by_ : ∀ x ∈ ys, isB x) : (Op.equalIn (d + 2) 23 (.agg (xs.map bf).toArray) (.agg (ys.map bf).toArray)).run Try.prog w = .ok (decide (xs = ys)) w := by
  have := run_equalIn_bytes (P := Try.prog) w d 23 5 16 Try.underlying23 Try.underlying5 (fun w => size_run (by kernel_rfl) w) (toU xs) (toU ys) (by simp [toU, hx]) (by simp [toU, hy])
  rw [toU_cell bx, toU_cell by_, toU_eq bx by_] at this
  exact this
theorem eq23 (xs ys : List Int) (hx : xs.length = 16) (hy : ys.length = 16) (bx : ∀ x ∈ xs, isB x) (by_ : ∀ x ∈ ys, isB x) {k : Bool → Prop} (hk : k (decide (xs = ys))) : eqAggK Try.prog 23 (xs.map bf).toArray (ys.map bf).toArray k :=
  ⟨_, by kernel_rfl, fun z => eqM23 9998 z xs ys hx hy bx by_, hk⟩
theorem part23 {cs : Array Value} {o : Nat} {w : World} : (part 23 cs o).run Try.prog w = .ok (.agg (cs.extract o (o + 16))) w := by
  have h1 : (isAgg 23).run Try.prog w = .ok true w := agg_run (by kernel_rfl) w
  have h2 : (sizeOf 23).run Try.prog w = .ok 16 w := size_run (by kernel_rfl) w
  simp only [part, Sem.run_bind, h1, h2, Result.andThen_ok, if_true, Sem.run_pure]
theorem part25 {cs : Array Value} {o : Nat} {w : World} : (part 25 cs o).run Try.prog w = .ok (.agg (cs.extract o (o + 17))) w := by
  have h1 : (isAgg 25).run Try.prog w = .ok true w := agg_run (by kernel_rfl) w
  have h2 : (sizeOf 25).run Try.prog w = .ok 17 w := size_run (by kernel_rfl) w
  simp only [part, Sem.run_bind, h1, h2, Result.andThen_ok, if_true, Sem.run_pure]
theorem ad_b {a : Ad} (o : a.ok) : a.cells.toArray.extract 1 (1 + 16) = (a.b.map bf).toArray := by
  apply Array.ext'
  have := o.len
  simp [Ad.cells, List.extract_eq_take_drop, List.take_of_length_le, this]
theorem eqM25 (d : Nat) (w : World) (x y : Ad) (ox : x.ok) (oy : y.ok) : (Op.equalIn (d + 3) 25 (.agg x.cells.toArray) (.agg y.cells.toArray)).run Try.prog w = .ok (x.six == y.six && decide (x.b = y.b)) w := by
  refine eqA_of Try.underlying25 (by kernel_rfl) ?_
  refine eqf_cons (by rfl) (by go_simp; rfl) (by go_simp; rfl) (by go_simp) ?_
  refine eqf_last (by rfl) part23 part23 ?_
  have h1 := ad_b ox
  have h2 := ad_b oy
  simp only [h1, h2]
  exact eqM23 d w _ _ ox.len oy.len ox.by_ oy.by_
theorem pf_a {p : Pf} (o : p.ok) : p.cells.toArray.extract 0 (0 + 17) = p.a.cells.toArray := by
  apply Array.ext'
  have := Ad.len17 o.a
  simp [Pf.cells, List.extract_eq_take_drop, this]
theorem pf_n {p : Pf} (o : p.ok) : p.cells.toArray[17]? = some (.int .i64 p.n) := by
  have := Ad.len17 o.a
  simp [Pf.cells, List.getElem?_append_right, this]
theorem eqM39 (d : Nat) (w : World) (x y : Pf) (ox : x.ok) (oy : y.ok) : (Op.equalIn (d + 4) 39 (.agg x.cells.toArray) (.agg y.cells.toArray)).run Try.prog w = .ok ((x.a.six == y.a.six && decide (x.a.b = y.a.b)) && x.n == y.n) w := by
  refine eqA_of Try.underlying39 (by kernel_rfl) ?_
  refine eqf_cons (by rfl) part25 part25 ?_ ?_
  · have h1 := pf_a ox
    have h2 := pf_a oy
    simp only [h1, h2]
    exact eqM25 d w _ _ ox.a oy.a
  have h1 := pf_n ox
  have h2 := pf_n oy
  refine eqf_last (a := .int .i64 x.n) (b := .int .i64 y.n) (by rfl) ?_ ?_ (by go_simp)
  · go_simp
  · go_simp
theorem eq39 (x y : Pf) (ox : x.ok) (oy : y.ok) {k : Bool → Prop} (hk : k (decide (x = y))) : eqAggK Try.prog 39 x.cells.toArray y.cells.toArray k := by
  refine ⟨_, by kernel_rfl, fun z => eqM39 9996 z x y ox oy, ?_⟩
  have : ((x.a.six == y.a.six && decide (x.a.b = y.a.b)) && x.n == y.n) = decide (x = y) := by
    obtain ⟨⟨a, b⟩, c⟩ := x
    obtain ⟨⟨a', b'⟩, c'⟩ := y
    dsimp only
    rw [beq_dec]
    by_cases h1 : a = a' <;> by_cases h2 : b = b' <;> by_cases h3 : c = c' <;> simp [h1, h2, h3]
  rw [this]; exact hk
theorem eq41 (a b c d : Int) {k : Bool → Prop} (hk : k (decide (a = c) && decide (b = d))) : eqAggK Try.prog 41 (List.toArray [.int .u16 a, .int .u16 b]) (List.toArray [.int .u16 c, .int .u16 d]) k := by
  refine ⟨a == c && b == d, by kernel_rfl, fun z => ?_, ?_⟩
  · refine eqA_of Try.underlying41 (by kernel_rfl) ?_
    refine eqf_cons (by rfl) (by go_simp; rfl) (by go_simp; rfl) (by go_simp) ?_
    exact eqf_last (by rfl) (by go_simp; rfl) (by go_simp; rfl) (by go_simp)
  · rw [beq_dec, beq_dec]; exact hk
end Go.Proofs.Ytkhlollengamdaa
