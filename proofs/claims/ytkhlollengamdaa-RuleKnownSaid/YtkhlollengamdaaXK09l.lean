/- What is proved: contracts of functions that the law calls, and of the law itself, over any heap. Conditions stand in each theorem. -/
import Derived.Test.YtkhlollengamdaaXK09k
set_option linter.unusedSimpArgs false
set_option linter.unusedVariables false
namespace Go.Proofs.Ytkhlollengamdaa
open Go.Oct Go.Oct.L09
/-- what is changed lies below the classifier -/
theorem Cl.below {h h' : H} {base p hb : Nat} {A : Option Addr} {n c : Nat} {xs : List RS} {ot : Ru} {hs : List Int} (s : Cl h base p hb A n c xs ot hs) {b : Nat} (m : Go.Oct.Mod h h' (· = b)) (hlt : b < base) : Cl h' base p hb A n c xs ot hs :=
  { s with
    blk := s.blk.mod m (fun e => by have := s.le; omega)
    rules := s.rules.mod m (fun i hi e => by have := s.rules.2.base_le hi; omega)
    hits := s.hits.mod m (fun i hi e => by have := s.hits.2.base_le hi; omega) }
section
variable {h : H} {k : Value → H → Prop}
/-- Pick -/
theorem c11 {x n : Int} (hx : isL x) (hn : n ≤ 1000000) (hk : ∀ i : Nat, ((n ≤ 0 ∧ i = 0) ∨ (i : Int) < n) → k (.int .i64 i) h) : callK Try.prog 11 #[.int .i64 x, .int .i64 n] h k := by
  refine call11 _ _ _ _ ?_
  unfold d11
  refine ifB_dec (fun h1 => hk 0 (.inl ⟨h1, rfl⟩)) (fun h1 => ?_)
  rw [needK_true (by omega), needK_true (by omega)]
  have a1 := Int.tmod_lt_of_pos x (show 0 < n by omega)
  have a2 : -n < Int.tmod x n := by
    have := Int.lt_tmod_of_pos x (show 0 < n by omega)
    omega
  rw [wrap64_id (by omega) (by omega)]
  have b1 := Int.tmod_lt_of_pos (Int.tmod x n + n) (show 0 < n by omega)
  have b2 := Int.tmod_nonneg n (show 0 ≤ Int.tmod x n + n by omega)
  have := hk (Int.tmod (Int.tmod x n + n) n).toNat (.inr (by omega))
  rwa [Int.toNat_of_nonneg b2] at this
set_option maxRecDepth 8000 in
set_option maxHeartbeats 4000000 in
/-- RuleLeaves -/
theorem c3 {b0 : Bool} {x1 : Int} (hx1 : isL x1) {A2 : Option Addr} {n2 c2 : Nat} {xs : List RS} (hr : RowH h A2 (n2 * 44) (cellsOf RS.cells xs)) (hn : xs.length = n2) {y : Ky} (oy : y.ok) {x4 : Int} (hx4 : isL x4)
    (hk : ∀ h', Go.Oct.Ext h h' → k (.bool true) h') : callK Try.prog 3 #[.bool b0, .int .i64 x1, .slice A2 n2 c2, .agg y.cells.toArray, .int .i64 x4] h k := by
  refine call3 _ _ _ _ _ _ _ _ _ ?_
  unfold d3
  refine alloc_new fun p8 g1 y8 b8 e1 => ?_
  refine ifB_dec (fun h1 => c6 fun g e => asB_of (hk g (e1.trans e))) (fun h1 => ?_)
  have hy := Ky.len37 oy
  have z1 := e1.size
  have lt8 := b8.lt
  refine c7 hx1 (fun _ => hr.ext e1) hn (fun hE g2 e2 => asT2_of (asP_of (asI_of ?_))) (fun hE p hb A c g2 e2 cl => asT2_of (asP_of (asI_of ?_)))
  · refine ifB_ne (fun _ => ?_) (fun h2 => absurd h2 hE)
    rw [needK_true (by simp)]
    refine (show ifB true _ _ from ?_)
    rw [ifB_true]
    exact c6 fun g e => asB_of (hk g (e1.trans (e2.trans e)))
  refine (show ifB false _ _ from ?_)
  rw [ifB_false]
  obtain ⟨_, hRo, hRx⟩ := newE_iff.1 hE
  have oo := othersOf_ok b0 hx1
  have hT := tells_range y hE
  refine (b8.ext e2).at_.loadN hy ?_
  refine c8 cl oy fun hs3 g3 m3 cl3 => asT2_of (asI_of (asI_of ?_))
  have e3 : Go.Oct.Ext g1 g3 := e2.then m3 (by rintro i rfl; exact cl.hb_le)
  have b8_3 := b8.ext e3
  generalize hTd : tellsR xs (othersOf b0 x1) y = T at *
  refine ⟨fun b g => g = g3 ∧ b = false, ?_, ?_⟩
  · rcases hT with ⟨t1, t2⟩ | ⟨t1, t2, t3⟩
    · rw [t1, t2]
      refine (show g3 = g3 ∧ _ from ⟨rfl, by decide⟩)
    · rw [t1]
      refine ifB_ne (fun h2 => absurd rfl h2) (fun _ => ?_)
      refine ifB_ne (fun h2 => absurd rfl h2) (fun _ => ?_)
      refine ifB_dec (fun h2 => by omega) (fun _ => ⟨rfl, decide_eq_false (by omega)⟩)
  rintro b80 g ⟨rfl, rfl⟩
  rw [ifB_false]
  refine c9 cl3 fun A82 c82 g4 e4 l82 => asS_of ?_
  have e14 := e3.trans e4
  have z14 := e14.size
  have hdl : (deadR xs).length ≤ n2 := by
    have := List.length_filter_le (deadB xs) (List.range xs.length)
    rw [List.length_range] at this
    unfold deadR
    omega
  have hrow : ∀ g, Go.Oct.Ext g1 g → RowH g A2 (n2 * 44) (cellsOf RS.cells xs) := fun g e => (hr.ext e1).ext e
  refine ⟨fun A16 n16 c16 x17 g => ∃ i : Nat, x17 = i ∧ i ≤ n2 ∧ Go.Oct.Ext g4 g ∧ n16 = (live xs i).length ∧ Lst g g4.size 43 RS.cells 44 A16 n16 c16 (live xs i), fun A16 n16 c16 x17 g => (n2 - x17).toNat, ⟨0, rfl, by omega, Go.Oct.Ext.refl _, rfl, Lst.nil⟩, ?_⟩
  rintro A16 n16 c16 x17 g5 ⟨i, rfl, hi, e5, hn16, l16⟩
  have z5 := e5.size
  have e15 := e14.trans e5
  refine ifB_dec (fun hlt => ?_) (fun hge => ?_)
  · obtain ⟨t, ht⟩ : ∃ t, xs[i]? = some t := ⟨_, List.getElem?_eq_getElem (by omega)⟩
    have hll := live_len (xs := xs) i
    have hstep : live xs (i + 1) = live xs i ++ if deadB xs i then [] else [t] := by rw [live, ht]; rfl
    refine ⟨fun _ _ _ _ A n c g => Go.Oct.Ext g4 g ∧ n = (live xs (i + 1)).length ∧ Lst g g4.size 43 RS.cells 44 A n c (live xs (i + 1)), ?_, ?_⟩
    · refine ⟨fun b18 x19 g => g = g5 ∧ ∃ j : Nat, x19 = j ∧ j ≤ (deadR xs).length ∧ b18 = ((deadR xs).take j).any (fun d => decide ((d : Int) = i)), fun b18 x19 g => ((deadR xs).length - x19).toNat, ⟨rfl, 0, rfl, by omega, by simp⟩, ?_⟩
      rintro b18 x19 g ⟨rfl, j, rfl, hj, rfl⟩
      refine ifB_dec (fun hlt2 => ?_) (fun hge2 => ?_)
      · obtain ⟨d, hd⟩ : ∃ d, (deadR xs)[j]? = some d := ⟨_, List.getElem?_eq_getElem (by omega)⟩
        have htk : ((deadR xs).take (j + 1)).any (fun d => decide ((d : Int) = i)) = (((deadR xs).take j).any (fun d => decide ((d : Int) = i)) || decide ((d : Int) = i)) := by
          rw [List.take_add_one, hd, List.any_append]
          simp
        refine ⟨fun b g' => g' = g ∧ b = ((deadR xs).take (j + 1)).any (fun d => decide ((d : Int) = i)), ?_, ?_⟩
        · refine ifB_of (fun h2 => ⟨rfl, ?_⟩) (fun h2 => ?_)
          · rw [htk, h2]; rfl
          · refine row_load (f := nI) (Lst.row (f := nI) (l82.ext e5)) rfl hd (asI_of ⟨rfl, ?_⟩)
            rw [htk, h2, Bool.false_or, beq_dec]
        rintro b g' ⟨rfl, rfl⟩
        refine ⟨⟨rfl, j + 1, wrap64_id (by omega) (by omega), by omega, rfl⟩, ?_⟩
        rw [wrap64_id (by omega) (by omega)]; dsimp only; omega
      · rw [List.take_of_length_le (by omega), dead_any (by omega)]
        cases hd : deadB xs i with
        | true =>
          rw [hd] at hstep
          refine (show ifB false _ _ from ?_)
          rw [ifB_false]
          have hs : live xs (i + 1) = live xs i := by rw [hstep]; simp
          rw [hs]
          exact ⟨e5, hn16, l16⟩
        | false =>
          rw [hd] at hstep
          refine (show ifB true _ _ from ?_)
          rw [ifB_true]
          refine rowL_index RS.len (by decide) (hrow g e15) rfl ht fun b q _ ha => ha.loadN (RS.len t) ?_
          refine fill_rows RS.len [t] rfl ?_
          refine alloc_new fun p111 g6 y111 b111 e6 => ?_
          refine src_blk b111 (by rw [cellsOf_size RS.len]; rfl) ?_
          have l6 := l16.ext e6
          have z6 := e6.size
          have ec : cellsOf RS.cells [t] = (RS.cells t).toArray := by simp [cellsOf]
          rw [ec]
          refine Lst.push RS.len l6 t rfl (RS.one t) (by decide) (by omega) (by omega) fun A' c' g7 l7 m7 d7 => ?_
          rw [hstep]
          exact ⟨(e5.trans e6).then m7 (fun i hi => l6.2.base_le hi), by rw [List.length_append, ← hn16]; rfl, l7⟩
    rintro _ _ _ _ A n c g ⟨e6, hn6, l6⟩
    refine ⟨⟨i + 1, wrap64_id (by omega) (by omega), by omega, e6, hn6, l6⟩, ?_⟩
    rw [wrap64_id (by omega) (by omega)]; dsimp only; omega
  · have hin : i = xs.length := by omega
    subst hin
    have hll := live_len (xs := xs) xs.length
    have hlm : ∀ r ∈ live xs xs.length, r.1.right = true := fun r hr' => hRx r (live_mem _ hr')
    have hlT := tells_live (ot := othersOf b0 x1) hRx y
    rw [hTd] at hlT
    generalize live xs xs.length = lv at *
    -- all rules, the others' and Any behind them
    refine src_row (hrow g5 e15) ?_
    have o0 : Lst g5 g5.size 43 RS.cells 44 none 0 0 [] := Lst.nil
    refine append_own (m := n2) o0.2 rfl (cells_one RS.one xs) (by rw [cellsOf_size RS.len, hn]) (by decide) (Nat.le_refl _) (by omega) fun A115 c115 g6 o115 m6 d6 => ?_
    have l115 : Lst g6 g5.size 43 RS.cells 44 A115 (0 + n2) c115 xs := ⟨by omega, by simpa [cellsOf] using o115⟩
    rw [Nat.zero_add] at l115
    have e6 : Go.Oct.Ext g5 g6 := ⟨m6.size, fun i hi _ => m6.block i hi (by rintro ⟨ad, e, _⟩; cases e)⟩
    have z6 := e6.size
    rw [Nat.zero_add]
    refine c10 fun g7 e7 => asA_of rfl ?_
    refine newVr rfl rfl (Ru.one _) fun p21 g8 y21 b21 e8 => ?_
    have z7 := e7.size
    have z8 := e8.size
    refine addrK_of rfl (store_blk b21 rfl (by decide) (one2 rfl rfl) fun g9 b21 m9 => ?_)
    have f21 : ∀ i, i = p21 → g5.size ≤ i := by rintro i rfl; omega
    have f21' : ∀ i, i = p21 → g6.size ≤ i := by rintro i rfl; omega
    have e69 : Go.Oct.Ext g6 g9 := (e7.trans e8).then m9 f21'
    have b21 : Blk g9 p21 (anyR b0 0).cells.toArray 43 := b21
    refine ⟨fun b g => Go.Oct.Ext g6 g ∧ Blk g p21 (othersOf b0 x1).cells.toArray 43, ?_, ?_⟩
    · cases b0 with
      | true =>
        refine (show ifB false _ _ from ?_)
        rw [ifB_false]
        exact ⟨e69, b21⟩
      | false =>
        refine (show ifB true _ _ from ?_)
        rw [ifB_true]
        refine addrK_of rfl (store_blk b21 rfl (show 0 + 43 + 1 ≤ 44 by decide) (one2 rfl rfl) fun g10 b21 m10 => ?_)
        exact ⟨e69.then m10 f21', b21⟩
    rintro b120 g10 ⟨e10, b21⟩
    have lot := Ru.len44 oo
    refine draw_ext (b21.at_.loadSN lot ?_)
    refine c10 fun g11 e11 => asA_of rfl ⟨e11, ?_⟩
    have z10 := e10.size
    have z11 := e11.size
    refine fill_rows RS.len [⟨othersOf b0 x1, oo⟩, ⟨anyR false 0, any_ok⟩] (by simp) ?_
    refine alloc_new fun p126 g12 y126 b126 e12 => ?_
    have z12 := e12.size
    have e6c := e10.trans (e11.trans e12)
    have l12 := l115.ext e6c
    have b126r : RowH g12 (some ⟨p126, 0, none⟩) (2 * 44) (cellsOf RS.cells [⟨othersOf b0 x1, oo⟩, ⟨anyR false 0, any_ok⟩]) := by
      have := b126.row 0 88 (by rw [cellsOf_size RS.len]; simp)
      have e2 : (cellsOf RS.cells [⟨othersOf b0 x1, oo⟩, ⟨anyR false 0, any_ok⟩]).extract 0 (0 + 88) = cellsOf RS.cells [⟨othersOf b0 x1, oo⟩, ⟨anyR false 0, any_ok⟩] := by
        have : (cellsOf RS.cells [⟨othersOf b0 x1, oo⟩, ⟨anyR false 0, any_ok⟩]).size = 88 := by rw [cellsOf_size RS.len]; rfl
        apply Array.ext'
        rw [Array.toList_extract, List.extract_eq_take_drop, List.drop_zero, List.take_of_length_le (by simp [this])]
      rw [e2] at this
      exact this
    refine Lst.joins RS.len RS.one l12 b126r rfl rfl (by decide) (by omega) (by omega) fun A127 c127 g13 l127 m13 d13 => ?_
    have e13 : Go.Oct.Ext g5 g13 := (e6.trans e6c).then m13 (fun i hi => l12.2.base_le hi)
    have z13 := e13.size
    have l16' := l16.ext e13
    -- the three classifiers
    have hE1 : newE (othersOf b0 x1) lv = 0 := newE_iff.2 ⟨by omega, hRo, hlm⟩
    have hE2 : newE (othersOf (!b0) 0) (xs ++ [⟨othersOf b0 x1, oo⟩, ⟨anyR false 0, any_ok⟩]) = 0 := by
      refine newE_iff.2 ⟨by rw [List.length_append]; simp only [List.length_cons, List.length_nil]; omega, others_right _, fun r hr' => ?_⟩
      rcases List.mem_append.1 hr' with h | h
      · exact hRx r h
      · simp only [List.mem_cons, List.not_mem_nil, or_false] at h
        rcases h with rfl | rfl
        · exact hRo
        · exact any_right
    refine c7 hx1 (fun _ => l16'.rowL) hn16.symm (fun hE' => absurd hE1 hE') fun _ p2 hb2 A' c' g14 e14' cl2 => asT2_of (asP_of (asI_of ?_))
    have l127' := l127.ext e14'
    refine c7 (by decide : isL 0) (fun _ => l127'.rowL) (by rw [List.length_append, hn]; rfl) (fun hE' => absurd hE2 hE') fun _ p3 hb3 A3' c3' g15 e15' cl3' => asT2_of (asP_of (asI_of ?_))
    have z14' := e14'.size
    have z15' := e15'.size
    refine ⟨fun b g => g = g15 ∧ b = false, ⟨rfl, by decide⟩, ?_⟩
    rintro b147 g ⟨rfl, rfl⟩
    rw [ifB_false]
    have e1g : Go.Oct.Ext g1 g := e15.trans (e13.trans (e14'.trans e15'))
    refine (b8.ext e1g).at_.loadN hy ?_
    have cl2g := cl2.ext e15'
    refine c8 cl2g oy fun hs16 g16 m16 cl16 => asT2_of (asI_of (asI_of ?_))
    have hb2le := cl2.hb_le
    have hb2lt := cl2.hb_lt
    have e1_16 : Go.Oct.Ext g1 g16 := e1g.then m16 (by rintro i rfl; omega)
    have cl3g := cl3'.below m16 hb2lt
    refine (b8.ext e1_16).at_.loadN hy ?_
    refine c8 cl3g oy fun hs17 g17 m17 cl17 => asT2_of (asI_of (asI_of ?_))
    have hb3le := cl3'.hb_le
    have e1_17 : Go.Oct.Ext g1 g17 := e1_16.then m17 (by rintro i rfl; omega)
    rw [hlT, tells_more oo y (others_fits hRo y), hTd]
    refine ⟨fun b g => g = g17 ∧ b = false, ?_, ?_⟩
    · refine ifB_ne (fun h2 => absurd rfl h2) (fun _ => ?_)
      refine ifB_ne (fun h2 => absurd rfl h2) (fun _ => ?_)
      refine ifB_ne (fun h2 => absurd rfl h2) (fun _ => ⟨rfl, ?_⟩)
      simp
    rintro b177 g' ⟨rfl, rfl⟩
    rw [ifB_false]
    refine ifB_dec (fun h2 => c6 fun g e => asB_of (hk g (e1.trans (e1_17.trans e)))) (fun h2 => ?_)
    have hw1 : IntKind.wrap .i64 ((n2 : Int) - 1) = (n2 : Int) - 1 := wrap64_id (by omega) (by omega)
    rw [hw1]
    refine c11 hx4 (by omega) fun i hi => asI_of ?_
    have hi1 : i + 1 < n2 := by omega
    have hwi : IntKind.wrap .i64 ((i : Int) + 1) = ((i + 1 : Nat) : Int) := wrap64_id (by omega) (by omega)
    rw [hwi]
    obtain ⟨a, ha⟩ : ∃ a, xs[i]? = some a := ⟨_, List.getElem?_eq_getElem (by omega)⟩
    obtain ⟨b, hb⟩ : ∃ b, xs[i + 1]? = some b := ⟨_, List.getElem?_eq_getElem (by omega)⟩
    have r17 := hrow g' e1_17
    have b8g := b8.ext e1_17
    refine ⟨fun v g => Go.Oct.Ext g' g ∧ v = (fits a.1 y && fits b.1 y), draw_ext ?_, ?_⟩
    · refine rowL_index RS.len (by decide) r17 rfl ha fun q1 q2 _ haa => haa.loadSN (RS.len a) ?_
      refine b8g.at_.loadSN hy ?_
      refine (show callK Try.prog 12 #[.agg a.1.cells.toArray, .agg y.cells.toArray] g' _ from c12 a.2 oy fun g18 e18 => asB_of ⟨e18, ?_⟩)
      refine ifB_of (fun h3 => ?_) (fun h3 => ⟨e18, by rw [h3]; rfl⟩)
      rw [h3, Bool.true_and]
      refine rowL_index RS.len (by decide) r17 rfl hb fun q1 q2 _ hbb => hbb.loadSN (RS.len b) ?_
      refine b8g.at_.loadSN hy ?_
      exact (show callK Try.prog 12 #[.agg b.1.cells.toArray, .agg y.cells.toArray] g18 _ from c12 b.2 oy fun g19 e19 => asB_of ⟨e18.trans e19, rfl⟩)
    rintro v g18 ⟨e18, rfl⟩
    refine ifB_of (fun h3 => c6 fun g e => asB_of (hk g (e1.trans (e1_17.trans (e18.trans e))))) (fun h3 => ?_)
    have e1_18 := e1_17.trans e18
    refine src_row (hrow g18 e1_18) ?_
    have o1 : Lst g18 g18.size 43 RS.cells 44 none 0 0 [] := Lst.nil
    refine append_own (m := n2) o1.2 rfl (cells_one RS.one xs) (by rw [cellsOf_size RS.len, hn]) (by decide) (Nat.le_refl _) (by omega) fun A205 c205 g19 o205 m19 d19 => ?_
    have l205 : Lst g19 g18.size 43 RS.cells 44 A205 (0 + n2) c205 xs := ⟨by omega, by simpa [cellsOf] using o205⟩
    rw [Nat.zero_add] at l205
    have e19 : Go.Oct.Ext g18 g19 := ⟨m19.size, fun i hi _ => m19.block i hi (by rintro ⟨ad, e, _⟩; cases e)⟩
    have z19 := e19.size
    have e1_19 := e1_18.trans e19
    rw [Nat.zero_add]
    refine rowL_index RS.len (by decide) (hrow g19 e1_19) rfl hb fun q1 q2 _ hbb => hbb.loadN (RS.len b) ?_
    refine Lst.putL RS.len (by decide) l205 rfl (by omega) b (RS.one b) fun g20 l20 m20 => ?_
    have e20 : Go.Oct.Ext g18 g20 := e19.then m20 (fun i hi => l205.2.base_le hi)
    refine rowL_index RS.len (by decide) (hrow g20 (e1_18.trans e20)) rfl ha fun q1 q2 _ haa => haa.loadN (RS.len a) ?_
    refine Lst.putL RS.len (by decide) l20 rfl (by rw [List.length_set]; omega) a (RS.one a) fun g21 l21 m21 => ?_
    have e21 : Go.Oct.Ext g18 g21 := e20.then m21 (fun i hi => l20.2.base_le hi)
    have e1_21 := e1_18.trans e21
    refine c7 hx1 (fun _ => l21.rowL) (by rw [List.length_set, List.length_set]; exact hn) (fun hE' => absurd (newE_swap ha hb hE) hE') fun _ p4 hb4 A4 c4 g22 e22 cl22 => asT2_of (asP_of (asI_of ?_))
    have e1_22 := e1_21.trans e22
    refine (b8.ext e1_22).at_.loadN hy ?_
    refine c8 cl22 oy fun hs23 g23 m23 cl23 => asT2_of (asI_of (asI_of ?_))
    have hs := tells_swap (ot := othersOf b0 x1) ha hb y h3
    unfold swapL at hs
    rw [hs, hTd]
    have z1_21 := e1_21.size
    have e1_23 : Go.Oct.Ext g1 g23 := e1_22.then m23 (by rintro i rfl; have := cl22.hb_le; omega)
    refine ifB_eq (fun _ => ?_) (fun h5 => absurd rfl h5)
    refine ifB_eq (fun _ => ?_) (fun h5 => absurd rfl h5)
    refine ifB_eq (fun _ => ?_) (fun h5 => absurd rfl h5)
    exact c6 fun g e => asB_of (hk g (e1.trans (e1_23.trans e)))
end
end Go.Proofs.Ytkhlollengamdaa
