/- What is proved: contracts of functions that the law calls, and of the law itself, over any heap. Conditions stand in each theorem. -/
import Derived.Test.YtkhlollengamdaaXK09b
set_option linter.unusedSimpArgs false
set_option linter.unusedVariables false
namespace Go.Proofs.Ytkhlollengamdaa
open Go.Oct Go.Oct.L09
theorem maxmin_nn (x : Int) : 0 ≤ maxI 0 (minI x 8) := by unfold maxI minI; split <;> omega
section
variable {h : H} {k : Value → H → Prop}
/-- Cut -/
theorem c32 {a : Ad} (o : a.ok) {n : Int} (hn : isL n) (hk : ∀ h', Go.Oct.Ext h h' → k (.agg (cut a n).cells.toArray) h') : callK Try.prog 32 #[.agg a.cells.toArray, .int .i64 n] h k := by
  refine call32 _ _ _ _ ?_
  unfold d32
  refine alloc_new fun p2 g1 y2 b2 x1 => alloc_new fun p4 g2 y4 b4 x2 => ?_
  have k2 := b2.ext x2
  have x12 := x1.trans x2
  have hl := Ad.len17 o
  have ho := o.len
  refine k2.at_.loadN hl ?_
  refine c63 o fun g3 x3 => asB_of ?_
  refine ifB_of (fun h1 => ?_) (fun h1 => ?_)
  · have hr : a.right = false := by simpa using h1
    refine store_all (vs := zP.cells.toArray) (b4.ext x3) rfl (by rfl) (Pf.one zP) fun g4 k4 m4 => ?_
    refine k4.at_.loadN (by rfl) ?_
    have := hk g4 ((x12.trans x3).then m4 (by rintro i rfl; have := x1.size; omega))
    unfold cut at this
    rw [hr] at this
    exact this
  · have hr : a.right = true := by simpa using h1
    refine (k2.ext x3).at_.loadN hl ?_
    refine c64 o fun g4 x4 => asI_of ?_
    have hs := Ad.size_le a
    have e8 : IntKind.wrap .i64 (8 * (a.size : Int)) = 8 * (a.size : Int) := wrap64_id (by omega) (by omega)
    have ec : maxI 0 (minI n (8 * (a.size : Int))) = clip a n := rfl
    have hc := clip_ok a n
    rw [e8, ec]
    generalize hm : clip a n = m at hc ⊢
    have x14 := x12.trans (x3.trans x4)
    refine ⟨fun x17 g => ∃ j : Nat, x17 = j ∧ j ≤ 16 ∧ Go.Oct.Ext h g ∧ Blk g p4 zP.cells.toArray 39 ∧ Blk g p2 (.bool a.six :: (((a.b.take j).mapIdx (mB m)).map bf ++ (a.b.drop j).map bf)).toArray 25, fun x17 g => (16 - x17).toNat, ⟨0, rfl, by omega, x14, (b4.ext (x3.trans x4)), ?_⟩, ?_⟩
    · have := k2.ext (x3.trans x4)
      simpa [Ad.cells] using this
    rintro x17 g ⟨j, rfl, hj, xg, k4, kg⟩
    refine ifB_dec (fun hlt => draw_ext ?_) (fun hge => ?_)
    · obtain ⟨v, hv⟩ : ∃ v, a.b[j]? = some v := ⟨_, List.getElem?_eq_getElem (by omega)⟩
      have hd : a.b.drop j = v :: a.b.drop (j + 1) := by
        rw [List.drop_eq_getElem_cons (by omega)]
        rw [List.getElem?_eq_getElem (by omega)] at hv
        cases hv; rfl
      have htl : ((a.b.take j).mapIdx (mB m)).length = j := by rw [List.length_mapIdx, List.length_take]; omega
      have ha : At g p2 (j + 1) [bf v] := by
        refine At.mid (pre := .bool a.six :: ((a.b.take j).mapIdx (mB m)).map bf) (post := (a.b.drop (j + 1)).map bf) kg.at_ ?_ ?_
        · rw [hd]; simp
        · simp; omega
      refine addrK_of rfl ?_
      rw [indexK_some]
      refine ⟨by omega, by omega, ?_⟩
      have eq1 : 0 + 1 + Int.toNat (j : Int) * 1 = j + 1 := by rw [Int.toNat_natCast]; omega
      rw [eq1]
      refine ha.loadS1 0 rfl rfl (asI_of ?_)
      have w1 : IntKind.wrap .i64 (8 * (j : Int)) = 8 * (j : Int) := wrap64_id (by omega) (by omega)
      have w2 : IntKind.wrap .i64 (m - 8 * (j : Int)) = m - 8 * (j : Int) := wrap64_id (by omega) (by omega)
      rw [w1, w2, needK_true (maxmin_nn _)]
      refine addrK_of rfl ?_
      rw [indexK_some]
      refine ⟨by omega, by omega, ?_⟩
      rw [eq1]
      have emB : bitK .and .u8 v (IntKind.wrap .u8 (shrK .u16 65280 (maxI 0 (minI (m - 8 * (j : Int)) 8)))) = mB m j v := rfl
      rw [emB]
      refine store_mid (pre := .bool a.six :: ((a.b.take j).mapIdx (mB m)).map bf) (mid := [bf v]) (post := (a.b.drop (j + 1)).map bf) kg (by rw [hd]; simp) (by simp; omega) (by rfl) (by rfl) (by simp [OneCells, Value.cells, Value.oneCell']) fun g5 k5 m5 => ?_
      have hp : p4 ≠ p2 := by have := b2.lt; omega
      refine ⟨⟨j + 1, wrap64_id (by omega) (by omega), by omega, xg.then m5 (by rintro i rfl; exact y2), k4.mod m5 hp, ?_⟩, ?_⟩
      · have et : a.b.take (j + 1) = a.b.take j ++ [v] := by rw [List.take_add_one, hv]; rfl
        rw [et, List.mapIdx_append]
        have hjl : (a.b.take j).length = j := by rw [List.length_take]; omega
        simpa [hjl, Value.cells, bf] using k5
      · rw [wrap64_id (by omega) (by omega)]; dsimp only; omega
    · have hj16 : j = 16 := by omega
      subst hj16
      have ef : (a.b.take 16).mapIdx (mB m) = cutB a.b m := by rw [List.take_of_length_le (by omega)]; rfl
      have ed : a.b.drop 16 = [] := List.drop_of_length_le (by omega)
      rw [ef, ed] at kg
      have oc := cut_ok o n
      have ecut : cut a n = ⟨⟨a.six, cutB a.b m⟩, m⟩ := by unfold cut; rw [hr, hm]; rfl
      rw [ecut] at hk oc
      have kg : Blk g p2 (Ad.cells ⟨a.six, cutB a.b m⟩).toArray 25 := by simpa [Ad.cells] using kg
      refine kg.at_.loadN (Ad.len17 oc.a) ?_
      refine pf_fill oc rfl ?_
      refine store_all k4 (by simpa using Pf.len18 oc) (by rfl) (Pf.one _) fun g5 k5 m5 => ?_
      exact k5.at_.loadN (Pf.len18 oc) (hk g5 (xg.then m5 (by rintro i rfl; have := x1.size; omega)))
/-- Right, of a prefix -/
theorem c43 {p : Pf} (o : p.ok) (hk : ∀ h', Go.Oct.Ext h h' → k (.bool p.right) h') : callK Try.prog 43 #[.agg p.cells.toArray] h k := by
  refine call43 _ _ _ ?_
  unfold d43
  refine alloc_new fun p1 g1 y1 b1 x1 => draw_ext ?_
  refine addrK_of rfl ((At.pa b1.at_ rfl).loadSN (Ad.len17 o.a) ?_)
  refine c63 o.a fun g2 x2 => asB_of ⟨x2, ?_⟩
  have x12 := x1.trans x2
  unfold Pf.right at hk
  refine ifB_of (fun h1 => ?_) (fun h1 => ?_)
  · rw [h1, Bool.true_and] at hk
    refine addrK_of rfl ((At.pa b1.at_ rfl).loadSN (Ad.len17 o.a) ?_)
    refine addrK_of rfl ((At.pn o b1.at_ rfl).loadS1 0 rfl rfl (asI_of ?_))
    refine b1.at_.loadSN (Pf.len18 o) ?_
    refine c32 o.a o.n fun g3 x3 => asA_of (by simpa using Pf.len18 (cut_ok o.a p.n)) ⟨x2.trans x3, ?_⟩
    exact eq39 _ _ (cut_ok o.a p.n) o (hk g3 (x12.trans x3))
  · rw [h1, Bool.false_and] at hk
    exact hk g2 x12
/-- Has -/
theorem c52 {p : Pf} (o : p.ok) {a : Ad} (oa : a.ok) (hk : ∀ h', Go.Oct.Ext h h' → k (.bool (p.has a)) h') : callK Try.prog 52 #[.agg p.cells.toArray, .agg a.cells.toArray] h k := by
  refine call52 _ _ _ _ ?_
  unfold d52
  refine alloc_new fun p2 g1 y2 b2 x1 => alloc_new fun p3 g2 y3 b3 x2 => draw_ext ?_
  have k2 := b2.ext x2
  have x12 := x1.trans x2
  refine k2.at_.loadSN (Pf.len18 o) ?_
  refine c43 o fun g3 x3 => asB_of ⟨x3, ?_⟩
  unfold Pf.has at hk
  refine ifB_of (fun h1 => ?_) (fun h1 => ?_)
  · rw [h1, Bool.true_and] at hk
    refine b3.at_.loadSN (Ad.len17 oa) ?_
    refine c63 oa fun g4 x4 => asB_of ⟨x3.trans x4, ?_⟩
    have x34 := x3.trans x4
    refine ifB_of (fun h2 => ?_) (fun h2 => ?_)
    · rw [h2, Bool.true_and] at hk
      refine b3.at_.loadSN (Ad.len17 oa) ?_
      refine addrK_of rfl ((At.pn o k2.at_ rfl).loadS1 0 rfl rfl (asI_of ?_))
      refine k2.at_.loadSN (Pf.len18 o) ?_
      refine c32 oa o.n fun g5 x5 => asA_of (by simpa using Pf.len18 (cut_ok oa p.n)) ⟨x34.trans x5, ?_⟩
      exact eq39 _ _ (cut_ok oa p.n) o (hk g5 (x12.trans (x34.trans x5)))
    · rw [h2, Bool.false_and] at hk
      exact hk g4 (x12.trans x34)
  · rw [h1, Bool.false_and] at hk
    exact hk g3 (x12.trans x3)
/-- Within -/
theorem c72 {p q : Pf} (o : p.ok) (oq : q.ok) (hk : ∀ h', Go.Oct.Ext h h' → k (.bool (within p q)) h') : callK Try.prog 72 #[.agg p.cells.toArray, .agg q.cells.toArray] h k := by
  refine call72 _ _ _ _ ?_
  unfold d72
  refine alloc_new fun p2 g1 y2 b2 x1 => alloc_new fun p3 g2 y3 b3 x2 => ?_
  have k2 := b2.ext x2
  have x12 := x1.trans x2
  refine k2.at_.loadN (Pf.len18 o) ?_
  refine c43 o fun g3 x3 => asB_of ?_
  unfold within at hk
  refine ifB_of (fun h1 => ?_) (fun h1 => ?_)
  · rw [h1, Bool.true_and] at hk
    refine addrK_of rfl ((At.pn o (k2.ext x3).at_ rfl).load1 0 rfl rfl (asI_of ?_))
    refine addrK_of rfl ((At.pn oq (b3.ext x3).at_ rfl).load1 0 rfl rfl (asI_of ?_))
    refine ifB_dec (fun h2 => ?_) (fun h2 => ?_)
    · rw [decide_eq_true h2, Bool.true_and] at hk
      refine (b3.ext x3).at_.loadN (Pf.len18 oq) ?_
      refine addrK_of rfl ((At.pa (k2.ext x3).at_ rfl).loadN (Ad.len17 o.a) ?_)
      exact c52 oq o.a fun g4 x4 => asB_of (hk g4 (x12.trans (x3.trans x4)))
    · rw [decide_eq_false h2, Bool.false_and] at hk
      exact hk g3 (x12.trans x3)
  · rw [h1, Bool.false_and] at hk
    exact hk g3 (x12.trans x3)
/-- prefixed -/
theorem c54 {p q : Pf} (o : p.ok) (oq : q.ok) (hk : ∀ h', Go.Oct.Ext h h' → k (.bool (prefixed p q)) h') : callK Try.prog 54 #[.agg p.cells.toArray, .agg q.cells.toArray] h k := by
  refine call54 _ _ _ _ ?_
  unfold d54
  refine alloc_new fun p2 g1 y2 b2 x1 => alloc_new fun p3 g2 y3 b3 x2 => ?_
  have k2 := b2.ext x2
  have x12 := x1.trans x2
  refine k2.at_.loadN (Pf.len18 o) ?_
  refine c44 o fun g3 x3 => asB_of ?_
  unfold prefixed at hk
  refine ifB_of (fun h1 => ?_) (fun h1 => ?_)
  · rw [h1, Bool.true_or] at hk
    exact hk g3 (x12.trans x3)
  · rw [h1, Bool.false_or] at hk
    refine (b3.ext x3).at_.loadN (Pf.len18 oq) ?_
    refine c44 oq fun g4 x4 => asB_of ?_
    refine ifB_of (fun h2 => ?_) (fun h2 => ?_)
    · rw [h2, Bool.true_and] at hk
      refine (b3.ext (x3.trans x4)).at_.loadN (Pf.len18 oq) ?_
      refine (k2.ext (x3.trans x4)).at_.loadN (Pf.len18 o) ?_
      exact c72 oq o fun g5 x5 => asB_of (hk g5 (x12.trans (x3.trans (x4.trans x5))))
    · rw [h2, Bool.false_and] at hk
      exact hk g4 (x12.trans (x3.trans x4))
end
end Go.Proofs.Ytkhlollengamdaa
