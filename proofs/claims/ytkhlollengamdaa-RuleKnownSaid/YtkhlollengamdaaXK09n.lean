/- What is proved: contracts of functions that the law calls, and of the law itself, over any heap. Conditions stand in each theorem. -/
import Derived.Test.YtkhlollengamdaaXK09m
set_option linter.unusedSimpArgs false
set_option linter.unusedVariables false
namespace Go.Proofs.Ytkhlollengamdaa
open Go.Oct Go.Oct.L09 Go.RowKit Go.Proofs.YtkhlollengamdaaW.PrintWords Go.Extern.Stop
theorem part77 {cs : Array Value} {o : Nat} {w : World} : (part 77 cs o).run Try.prog w = .ok (.agg (cs.extract o (o + 17))) w := by
  have h1 : (isAgg 77).run Try.prog w = .ok true w := agg_run (by kernel_rfl) w
  have h2 : (sizeOf 77).run Try.prog w = .ok 17 w := size_run (by kernel_rfl) w
  simp only [part, Sem.run_bind, h1, h2, Result.andThen_ok, if_true, Sem.run_pure]
theorem eqM77 (d : Nat) (w : World) (x y : Ad) (ox : x.ok) (oy : y.ok) : (Op.equalIn (d + 3) 77 (.agg x.cells.toArray) (.agg y.cells.toArray)).run Try.prog w = .ok (x.six == y.six && decide (x.b = y.b)) w := by
  refine eqA_of Try.underlying77 (by kernel_rfl) ?_
  refine eqf_cons (by rfl) (by go_simp; rfl) (by go_simp; rfl) (by go_simp) ?_
  refine eqf_last (by rfl) part23 part23 ?_
  have h1 := ad_b ox
  have h2 := ad_b oy
  simp only [h1, h2]
  exact eqM23 d w _ _ ox.len oy.len ox.by_ oy.by_
theorem eqM86 (d : Nat) (w : World) (x y : Pf) (ox : x.ok) (oy : y.ok) : (Op.equalIn (d + 4) 86 (.agg x.cells.toArray) (.agg y.cells.toArray)).run Try.prog w = .ok ((x.a.six == y.a.six && decide (x.a.b = y.a.b)) && x.n == y.n) w := by
  refine eqA_of Try.underlying86 (by kernel_rfl) ?_
  refine eqf_cons (by rfl) part77 part77 ?_ ?_
  · have h1 := pf_a ox
    have h2 := pf_a oy
    simp only [h1, h2]
    exact eqM77 d w _ _ ox.a oy.a
  have h1 := pf_n ox
  have h2 := pf_n oy
  refine eqf_last (a := .int .i64 x.n) (b := .int .i64 y.n) (by rfl) ?_ ?_ (by go_simp)
  · go_simp
  · go_simp
theorem eq86 (x y : Pf) (ox : x.ok) (oy : y.ok) {k : Bool → Prop} (hk : k (decide (x = y))) : eqAggK Try.prog 86 x.cells.toArray y.cells.toArray k := by
  refine ⟨_, by kernel_rfl, fun z => eqM86 9996 z x y ox oy, ?_⟩
  have : ((x.a.six == y.a.six && decide (x.a.b = y.a.b)) && x.n == y.n) = decide (x = y) := by
    obtain ⟨⟨a, b⟩, c⟩ := x
    obtain ⟨⟨a', b'⟩, c'⟩ := y
    dsimp only
    rw [beq_dec]
    by_cases h1 : a = a' <;> by_cases h2 : b = b' <;> by_cases h3 : c = c' <;> simp [h1, h2, h3]
  rw [this]; exact hk
/-! ### bits -/
def bitAt (v : Int) (s : Nat) : Int := v / 2 ^ (7 - s) % 2
theorem bit_table : ∀ v : Fin 256, ∀ t : Fin 8, IntKind.wrap .u8 (bitK .and .u8 (v.val : Int) (mT (t.val : Int)) + IntKind.wrap .u8 (bitAt (v.val : Int) t.val * 2 ^ (7 - t.val))) = bitK .and .u8 (v.val : Int) (mT ((t.val + 1 : Nat) : Int)) := by decide +kernel
theorem zero_table : ∀ v : Fin 256, bitK .and .u8 (v.val : Int) (mT 0) = 0 := by decide +kernel
theorem clampI (x : Int) : maxI 0 (minI x 8) = if x ≤ 0 then 0 else if 8 ≤ x then 8 else x := by
  simp only [maxI, minI]
  split <;> split <;> (first | omega | (split <;> first | omega | (split <;> omega)))
theorem mk_eq (m : Int) (i : Nat) : mk m i = mT (maxI 0 (minI (m - 8 * i) 8)) := rfl
theorem cutB_zero {b : List Int} (hl : b.length = 16) (hb : ∀ x ∈ b, isB x) : cutB b 0 = List.replicate 16 0 := by
  unfold cutB
  apply List.ext_getElem
  · simp [hl]
  · intro i h1 h2
    simp only [List.getElem_mapIdx, List.getElem_replicate]
    unfold mB
    rw [mk_eq, clampI, if_pos (by omega)]
    have hx := hb (b[i]'(by simpa using h1)) (List.getElem_mem _)
    unfold isB at hx
    have := zero_table ⟨(b[i]'(by simpa using h1)).toNat, by omega⟩
    dsimp only at this
    rwa [Int.toNat_of_nonneg hx.1] at this
theorem cutB_get {b : List Int} {m : Int} {i : Nat} {v : Int} (hv : b[i]? = some v) : (cutB b m)[i]? = some (mB m i v) := by
  unfold cutB
  rw [List.getElem?_mapIdx, hv]
  rfl
theorem cutB_step {b : List Int} (hb : ∀ x ∈ b, isB x) {j : Nat} {v : Int} (hv : b[j / 8]? = some v) : (cutB b j).set (j / 8) (IntKind.wrap .u8 (mB j (j / 8) v + IntKind.wrap .u8 (bitAt v (j % 8) * 2 ^ (7 - j % 8)))) = cutB b (j + 1 : Nat) := by
  have hx := hb v (List.mem_of_getElem? hv)
  unfold isB at hx
  apply List.ext_getElem?
  intro i
  rw [List.getElem?_set]
  by_cases hi : j / 8 = i
  · rw [if_pos hi]
    subst hi
    have hlt := (List.getElem?_eq_some_iff.1 hv).1
    rw [if_pos (by rw [cutB_len]; exact hlt), cutB_get hv]
    congr 1
    have := bit_table ⟨v.toNat, by omega⟩ ⟨j % 8, by omega⟩
    dsimp only at this
    rw [Int.toNat_of_nonneg hx.1] at this
    unfold mB
    rw [mk_eq, mk_eq, clampI, clampI]
    have e1 : (if (j : Int) - 8 * ((j / 8 : Nat) : Int) ≤ 0 then (0 : Int) else if 8 ≤ (j : Int) - 8 * ((j / 8 : Nat) : Int) then 8 else (j : Int) - 8 * ((j / 8 : Nat) : Int)) = ((j % 8 : Nat) : Int) := by
      split
      · omega
      · split <;> omega
    have e2 : (if ((j + 1 : Nat) : Int) - 8 * ((j / 8 : Nat) : Int) ≤ 0 then (0 : Int) else if 8 ≤ ((j + 1 : Nat) : Int) - 8 * ((j / 8 : Nat) : Int) then 8 else ((j + 1 : Nat) : Int) - 8 * ((j / 8 : Nat) : Int)) = ((j % 8 + 1 : Nat) : Int) := by
      split
      · omega
      · split <;> omega
    rw [e1, e2]
    exact this
  · rw [if_neg hi]
    cases hbi : b[i]? with
    | none =>
      have : b.length ≤ i := List.getElem?_eq_none_iff.1 hbi
      rw [List.getElem?_eq_none (by rw [cutB_len]; exact this), List.getElem?_eq_none (by rw [cutB_len]; exact this)]
    | some x =>
      rw [cutB_get hbi, cutB_get hbi]
      congr 1
      unfold mB
      rw [mk_eq, mk_eq, clampI, clampI]
      have e : (if (j : Int) - 8 * (i : Int) ≤ 0 then (0 : Int) else if 8 ≤ (j : Int) - 8 * (i : Int) then 8 else (j : Int) - 8 * (i : Int)) = (if ((j + 1 : Nat) : Int) - 8 * (i : Int) ≤ 0 then (0 : Int) else if 8 ≤ ((j + 1 : Nat) : Int) - 8 * (i : Int) then 8 else ((j + 1 : Nat) : Int) - 8 * (i : Int)) := by
        split <;> split <;> first | omega | (split <;> first | omega | (split <;> omega))
      rw [e]
section
variable {h : H} {k : Value → H → Prop}
theorem half_pow (v : Int) (t : Nat) : v / 2 ^ t / 2 = v / 2 ^ (t + 1) := by
  rw [Int.ediv_ediv_of_nonneg (by have : (0:Int) < 2 ^ t := Int.pow_pos (by decide); omega), Int.pow_succ]
/-- bit -/
theorem c81 {a : Ad} (o : a.ok) {i : Nat} (hi : i < 128) (hk : ∀ v, a.b[i / 8]? = some v → ∀ h', Go.Oct.Ext h h' → k (.int .i64 (bitAt v (i % 8))) h') : callK Try.prog 81 #[.agg a.cells.toArray, .int .i64 i] h k := by
  refine call81 _ _ _ _ ?_
  unfold d81
  have hl := o.len
  obtain ⟨v, hv⟩ : ∃ v, a.b[i / 8]? = some v := ⟨_, List.getElem?_eq_getElem (by omega)⟩
  have hb := o.by_ v (List.mem_of_getElem? hv)
  unfold isB at hb
  refine alloc_new fun p2 g1 y2 b2 x1 => ?_
  rw [needK_true (by decide)]
  have e8 : IntKind.wrap .i64 (Int.tdiv (i : Int) 8) = ((i / 8 : Nat) : Int) := by
    rw [Int.tdiv_eq_ediv_of_nonneg (by omega), wrap64_id (by omega) (by omega)]; omega
  have em : Int.tmod (i : Int) 8 = ((i % 8 : Nat) : Int) := by rw [Int.tmod_eq_emod_of_nonneg (by omega)]; omega
  rw [e8, em]
  refine addrK_of rfl ?_
  rw [indexK_some]
  refine ⟨by omega, by omega, ?_⟩
  have eq1 : 0 + 1 + Int.toNat ((i / 8 : Nat) : Int) * 1 = 1 + i / 8 := by rw [Int.toNat_natCast]; omega
  rw [eq1]
  refine (At.aby b2.at_ rfl).load1 (i / 8) rfl (by rw [List.getElem?_map, hv]; rfl) (asI_of ?_)
  rw [needK_true (by decide), wrap64_id (by omega) (by omega)]
  have hk := hk v hv g1 x1
  generalize i % 8 = s at *
  refine ⟨fun x5 x6 g => g = g1 ∧ ∃ t : Nat, x6 = s + t ∧ t ≤ 7 - s ∧ x5 = v / 2 ^ t, fun x5 x6 g => (7 - x6).toNat, ⟨rfl, 0, by omega, by omega, by simp⟩, ?_⟩
  rintro x5 x6 g ⟨rfl, t, rfl, ht, rfl⟩
  have hp : (0 : Int) < 2 ^ t := Int.pow_pos (by decide)
  have hv0 : 0 ≤ v / 2 ^ t := Int.ediv_nonneg hb.1 (by omega)
  have hv1 : v / 2 ^ t ≤ v := Int.ediv_le_self _ hb.1
  refine ifB_dec (fun hlt => ?_) (fun hge => ?_)
  · rw [needK_true (by decide), Int.tdiv_eq_ediv_of_nonneg hv0, half_pow]
    have h2 : 0 ≤ v / 2 ^ (t + 1) ∧ v / 2 ^ (t + 1) ≤ v := by rw [← half_pow]; omega
    refine ⟨⟨rfl, t + 1, ?_, by omega, wrap64_id (by omega) (by omega)⟩, ?_⟩
    · rw [wrap64_id (by omega) (by omega)]; omega
    · rw [wrap64_id (x := (s : Int) + t + 1) (by omega) (by omega)]; dsimp only; omega
  · have hts : t = 7 - s ∨ 7 ≤ s := by omega
    rw [needK_true (by decide), Int.tmod_eq_emod_of_nonneg hv0]
    have ht7 : t = 7 - s := by omega
    subst ht7
    exact hk
/-- the reference's Cut -/
theorem c78 {a : Ad} (o : a.ok) {n : Int} (hn : isL n) (hk : ∀ h', Go.Oct.Ext h h' → k (.agg (cut a n).cells.toArray) h') : callK Try.prog 78 #[.agg a.cells.toArray, .int .i64 n] h k := by
  refine call78 _ _ _ _ ?_
  unfold d78
  refine alloc_new fun p2 g1 y2 b2 x1 => alloc_new fun p4 g2 y4 b4 x2 => ?_
  have k2 := b2.ext x2
  have x12 := x1.trans x2
  have hl := Ad.len17 o
  have ho := o.len
  refine k2.at_.loadN hl ?_
  refine c77 o fun g3 x3 => asB_of ?_
  refine ifB_of (fun h1 => ?_) (fun h1 => ?_)
  · have hr : a.right = false := by simpa using h1
    refine store_all (vs := zP.cells.toArray) (b4.ext x3) rfl (by rfl) (Pf.one zP) fun g4 k4 m4 => ?_
    refine k4.at_.loadN (by rfl) ?_
    have := hk g4 ((x12.trans x3).then m4 (by rintro i rfl; have := x1.size; omega))
    unfold cut at this
    rw [hr] at this
    exact this
  · have hr : a.right = true := by simpa using h1
    refine addrK_of rfl ((At.asix (k2.ext x3).at_).load1 0 rfl rfl (asB_of (c80 _ (asI_of ?_))))
    refine addrK_of rfl ((At.asix (k2.ext x3).at_).load1 0 rfl rfl (asB_of ?_))
    have es : (if a.six then (16 : Int) else 4) = (a.size : Int) := by unfold Ad.size; split <;> rfl
    rw [es]
    have hs := Ad.size_le a
    have e8 : IntKind.wrap .i64 (8 * (a.size : Int)) = 8 * (a.size : Int) := wrap64_id (by omega) (by omega)
    have ec : maxI 0 (minI n (8 * (a.size : Int))) = clip a n := rfl
    have hc := clip_ok a n
    rw [e8, ec]
    have ecut : cut a n = ⟨⟨a.six, cutB a.b (clip a n)⟩, clip a n⟩ := by unfold cut; rw [hr]; rfl
    have oc := cut_ok o n
    rw [ecut] at hk oc
    generalize hm : clip a n = m at hc hk oc ⊢
    have oz : (⟨⟨a.six, List.replicate 16 0⟩, m⟩ : Pf).ok := ⟨⟨rfl, zA_ok.by_⟩, by unfold isL; dsimp only; omega⟩
    refine pf_fill oz rfl ?_
    refine newVr rfl (by simpa using Pf.len18 oz) (Pf.one _) fun p5 g4 y5 b5 x4 => ?_
    have x34 := x3.trans x4
    have z2 := x2.size
    have z34 := x34.size
    have z3 := x3.size
    have hne : p2 ≠ p5 := by have := (k2.ext x3).lt; omega
    have hne4 : p4 ≠ p5 := by have := (b4.ext x3).lt; omega
    have z12 := x12.size
    obtain ⟨M, rfl⟩ := Int.eq_ofNat_of_zero_le hc.1
    refine ⟨fun x6 g => ∃ j : Nat, x6 = j ∧ j ≤ M ∧ Go.Oct.Ext h g ∧ Blk g p2 a.cells.toArray 77 ∧ Blk g p4 zP.cells.toArray 86 ∧ Blk g p5 (Pf.cells ⟨⟨a.six, cutB a.b j⟩, M⟩).toArray 86, fun x6 g => (M - x6).toNat, ⟨0, rfl, by omega, x12.trans x34, k2.ext x34, b4.ext x34, ?_⟩, ?_⟩
    · rw [show ((0 : Nat) : Int) = 0 from rfl, cutB_zero ho o.by_]; exact b5
    rintro x6 g ⟨j, rfl, hj, xg, kp2, kp4, kp5⟩
    refine ifB_dec (fun hlt => ?_) (fun hge => ?_)
    · refine kp2.at_.loadN hl ?_
      refine c81 o (i := j) (by omega) fun v hv g5 x5 => asI_of ?_
      have em : Int.tmod (j : Int) 8 = ((j % 8 : Nat) : Int) := by rw [Int.tmod_eq_emod_of_nonneg (by omega)]; omega
      have e8' : IntKind.wrap .i64 (Int.tdiv (j : Int) 8) = ((j / 8 : Nat) : Int) := by
        rw [Int.tdiv_eq_ediv_of_nonneg (by omega), wrap64_id (by omega) (by omega)]; omega
      rw [needK_true (by decide), em]
      have hbit : 0 ≤ bitAt v (j % 8) ∧ bitAt v (j % 8) ≤ 1 := by unfold bitAt; omega
      have hstep := cutB_step o.by_ (j := j) hv
      have hdv : (cutB a.b j)[j / 8]? = some (mB j (j / 8) v) := cutB_get hv
      have hDl : (cutB a.b j).length = 16 := by rw [cutB_len]; exact ho
      have hs8 : j % 8 ≤ 7 := by omega
      generalize bitAt v (j % 8) = bt at *
      generalize j % 8 = s at *
      refine ⟨fun x7 x8 g => g = g5 ∧ ∃ t : Nat, x8 = s + t ∧ t ≤ 7 - s ∧ x7 = bt * 2 ^ t, fun x7 x8 g => (7 - x8).toNat, ⟨rfl, 0, by omega, by omega, by simp⟩, ?_⟩
      rintro x7 x8 g' ⟨rfl, t, rfl, ht, rfl⟩
      have hpow : (0 : Int) < 2 ^ t ∧ (2 : Int) ^ t ≤ 128 := by
        have : t = 0 ∨ t = 1 ∨ t = 2 ∨ t = 3 ∨ t = 4 ∨ t = 5 ∨ t = 6 ∨ t = 7 := by omega
        rcases this with rfl | rfl | rfl | rfl | rfl | rfl | rfl | rfl <;> decide
      have hx7 : 0 ≤ bt * 2 ^ t ∧ bt * 2 ^ t ≤ 128 := by
        have : bt = 0 ∨ bt = 1 := by omega
        rcases this with h | h <;> rw [h] <;> omega
      refine ifB_dec (fun hlt2 => ?_) (fun hge2 => ?_)
      · refine ⟨⟨rfl, t + 1, ?_, by omega, ?_⟩, ?_⟩
        · rw [wrap64_id (by omega) (by omega)]; omega
        · rw [wrap64_id (by omega) (by omega), Int.pow_succ, Int.mul_comm 2, Int.mul_assoc]
        · rw [wrap64_id (x := (s : Int) + t + 1) (by omega) (by omega)]; dsimp only; omega
      · have ht7 : t = 7 - s := by omega
        subst ht7
        rw [needK_true (by decide), needK_true (by decide), e8']
        have kp5' := kp5.ext x5
        have eq1 : 0 + 0 + 1 + Int.toNat ((j / 8 : Nat) : Int) * 1 = 1 + j / 8 := by rw [Int.toNat_natCast]; omega
        refine addrK_of rfl (addrK_of rfl ?_)
        rw [indexK_some]
        refine ⟨by omega, by omega, ?_⟩
        rw [eq1]
        refine (At.aby (At.pa kp5'.at_ rfl) rfl).load1 (j / 8) rfl (by rw [List.getElem?_map, hdv]; rfl) (asI_of ?_)
        refine addrK_of rfl (addrK_of rfl ?_)
        rw [indexK_some]
        refine ⟨by omega, by omega, ?_⟩
        rw [eq1]
        have hDj : cutB a.b j = (cutB a.b j).take (j / 8) ++ mB j (j / 8) v :: (cutB a.b j).drop (j / 8 + 1) := by
          have : mB j (j / 8) v = (cutB a.b j)[j / 8]'(by omega) := by
            have := (List.getElem?_eq_some_iff.1 hdv).2
            exact this.symm
          rw [this, ← List.drop_eq_getElem_cons (by omega), List.take_append_drop]
        have hset := List.set_eq_take_append_cons_drop (l := cutB a.b j) (i := j / 8) (a := IntKind.wrap .u8 (mB j (j / 8) v + IntKind.wrap .u8 (bt * 2 ^ (7 - s))))
        rw [if_pos (by omega), hstep] at hset
        refine store_mid (pre := .bool a.six :: ((cutB a.b j).take (j / 8)).map bf) (mid := [bf (mB j (j / 8) v)]) (post := ((cutB a.b j).drop (j / 8 + 1)).map bf ++ [.int .i64 (M : Int)]) kp5' ?_ ?_ (by rfl) (by rfl) (by simp [OneCells, Value.cells, Value.oneCell']) fun g6 k6 m6 => ?_
        · show Pf.cells ⟨⟨a.six, cutB a.b j⟩, M⟩ = _
          have e9 : (cutB a.b j).map bf = ((cutB a.b j).take (j / 8)).map bf ++ bf (mB j (j / 8) v) :: ((cutB a.b j).drop (j / 8 + 1)).map bf := by
            rw [← List.map_cons, ← List.map_append, ← hDj]
          simp only [Pf.cells, Ad.cells]
          rw [e9]
          simp
        · simp [hDl]; omega
        refine ⟨⟨j + 1, wrap64_id (by omega) (by omega), by omega, (xg.trans x5).then m6 (by rintro i rfl; have := x1.size; omega), (kp2.ext x5).mod m6 hne, (kp4.ext x5).mod m6 hne4, ?_⟩, ?_⟩
        · have e9 : Pf.cells ⟨⟨a.six, cutB a.b (j + 1 : Nat)⟩, (M : Int)⟩ = .bool a.six :: ((cutB a.b j).take (j / 8)).map bf ++ ([bf (IntKind.wrap .u8 (mB j (j / 8) v + IntKind.wrap .u8 (bt * 2 ^ (7 - s))))] ++ (((cutB a.b j).drop (j / 8 + 1)).map bf ++ [.int .i64 (M : Int)])) := by
            simp only [Pf.cells, Ad.cells]
            rw [hset]
            simp
          rw [e9]
          exact k6
        · rw [wrap64_id (by omega) (by omega)]; dsimp only; omega
    · have hjM : j = M := by omega
      subst hjM
      refine kp5.at_.loadN (Pf.len18 oc) ?_
      refine store_all kp4 (by simpa using Pf.len18 oc) (by rfl) (Pf.one _) fun g6 k6 m6 => ?_
      exact k6.at_.loadN (Pf.len18 oc) (hk g6 (xg.then m6 (by rintro i rfl; have := x1.size; omega)))
end
end Go.Proofs.Ytkhlollengamdaa
