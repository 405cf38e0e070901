/- What is proved: contracts of functions that the law calls, and of the law itself, over any heap. Conditions stand in each theorem. -/
import Derived.Test.YtfeodnhklibegaaXK13j
set_option linter.unusedSimpArgs false
set_option linter.unusedVariables false
namespace Go.Proofs.Ytfeodnhklibegaa
open Go.Oct Go.Oct.L01
/-- an act that came in -/
structure Act where
  Do : Int
  At : Int
  A : Option Addr
  n : Nat
  c : Nat
  bs : List Int
  B : Option Addr
  m : Nat
  d : Nat
  fs : List (Int × Int)
def Act.cells (a : Act) : List Value := [.int .i64 a.Do, .int .i64 a.At, .slice a.A a.n a.c, .slice a.B a.m a.d]
theorem Act.len (a : Act) : a.cells.length = 4 := rfl
theorem Act.one (a : Act) : OneCells a.cells := by simp [OneCells, Act.cells, Value.oneCell']
structure Act.ok (a : Act) (h : H) : Prop where
  row : RowH h a.A a.n (a.bs.map bf).toArray
  byt : ∀ x ∈ a.bs, isB x
  fro : RowH h a.B (a.m * 2) (cellsOf fcells a.fs)
  fln : a.fs.length = a.m
  at1 : a.At ≤ 9223372036854775807
/-- few -/
theorem c7 (A : Option Addr) (n c : Nat) (acts : List Act) (h : H) (k : Value → H → Prop) (hr : RowH h A (n * 4) (cellsOf Act.cells acts)) (hn : acts.length = n)
    (hno : k (.bool false) h) (hk : (∀ a ∈ acts.take 41, a.n ≤ 60 ∧ a.m ≤ 60) → k (.bool (decide ((n : Int) ≤ 40))) h) : callK Try.prog 7 #[.slice A n c] h k := by
  refine call7 _ _ _ _ _ ?_
  unfold d7
  refine ⟨fun b x g => g = h ∧ ∃ j : Nat, x = j ∧ j ≤ n ∧ j ≤ 41 ∧ ∀ a ∈ acts.take j, a.n ≤ 60 ∧ a.m ≤ 60, fun b x g => (100 - x).toNat, ⟨rfl, 0, rfl, by omega, by omega, by simp⟩, ?_⟩
  rintro b x g ⟨rfl, j, rfl, hj, hj2, hall⟩
  refine ⟨fun b g' => g' = g ∧ b = decide (j < n ∧ j < 41), ?_, ?_⟩
  · refine ifB_dec (fun h1 => ⟨rfl, by simp only [decide_eq_decide]; omega⟩) (fun h1 => ⟨rfl, ?_⟩)
    rw [eq_comm, decide_eq_false_iff_not]; omega
  rintro b g' ⟨rfl, rfl⟩
  refine ifB_dec (fun h1 => ?_) (fun h1 => ?_)
  · have hx : acts[j]? = some acts[j] := List.getElem?_eq_getElem (by omega)
    refine ⟨fun b g => g = g' ∧ b = decide (60 < acts[j].n ∨ 60 < acts[j].m), ?_, ?_⟩
    · refine rowL_index Act.len (by omega) hr rfl hx fun b q _ ha => addrK_of rfl (ha.load1 2 rfl rfl (asS_of ?_))
      refine ifB_dec (fun h2 => ⟨rfl, ?_⟩) (fun h2 => ?_)
      · rw [eq_comm, decide_eq_true_iff]; omega
      refine rowL_index Act.len (by omega) hr rfl hx fun b q _ ha => addrK_of rfl (ha.load1 3 rfl rfl (asS_of ⟨rfl, ?_⟩))
      simp only [decide_eq_decide]; omega
    rintro b g ⟨rfl, rfl⟩
    refine ifB_dec (fun h2 => hno) (fun h2 => ?_)
    rw [wrap64_id (by omega) (by omega)]
    refine ⟨⟨rfl, j + 1, rfl, by omega, by omega, ?_⟩, by dsimp only; omega⟩
    rw [List.take_succ_eq_append_getElem (by omega)]
    intro a ha
    rcases List.mem_append.1 ha with ha | ha
    · exact hall a ha
    · rw [List.mem_singleton.1 ha]; omega
  · refine hk fun a ha => hall a ?_
    by_cases h2 : j = 41
    · subst h2; exact ha
    · have : j = n := by omega
      rw [List.take_of_length_le (by omega)] at ha ⊢
      exact ha
/-- the fates that keep all -/
def keepL (j : Nat) : List (Int × Int) := (List.range j).map fun (i : Nat) => ((1 : Int), (i : Int))
theorem keepL_succ (j : Nat) : keepL (j + 1) = keepL j ++ [((1 : Int), (j : Int))] := by simp [keepL, List.range_succ]
theorem keepL_len (j : Nat) : (keepL j).length = j := by simp [keepL]
theorem keepL_get (j : Nat) : ∀ i, i < j → ∃ x, (keepL j)[i]? = some ((1 : Int), x) := by
  intro i hi
  exact ⟨i, by simp [keepL, hi]⟩
theorem At.loadS1m {h : H} {T : Nat → Prop} {b o : Nat} {l : List Value} (a : At h b o l) (hT : ¬ T b) (j : Nat) {q : Nat} {v : Value} {k : Value → Prop} (hq : q = o + j) (hv : l[j]? = some v) (hk : k v) : loadS1 (fun g => Go.Oct.Mod h g T) (some ⟨b, q, none⟩) k := by
  subst hq
  exact loadS1_some (fun g hg => (a.mod hg hT).cell hv) hk
def cov (U : List (Int × List Int)) (C : List Int) (k q : Nat) : Prop := ∃ w, U[q]? = some w ∧ w.1 ≤ k ∧ (k : Int) < w.1 + w.2.length ∧ w.2[k - w.1.toNat]? = C[k]?

set_option maxHeartbeats 1000000 in
/-- DiskKeeps -/
theorem c3 (x0 : Int) (A1 : Option Addr) (n1 q1 : Nat) (acts : List Act) (A2 : Option Addr) (n2 q2 : Nat) (fs : List (Int × Int)) (h : H) (k : Value → H → Prop) (hr : RowH h A1 (n1 * 4) (cellsOf Act.cells acts)) (hn : acts.length = n1) (hok : ∀ a ∈ acts, a.ok h)
    (hr2 : RowH h A2 (n2 * 2) (cellsOf fcells fs)) (hn2 : fs.length = n2) (hk : ∀ h', Ext h h' → k (.bool true) h') : callK Try.prog 3 #[.int .i64 x0, .slice A1 n1 q1, .slice A2 n2 q2] h k := by
  refine call3 _ _ _ _ _ _ _ _ _ ?_
  unfold d3
  refine c6 x0 301 h _ (by omega) (asI_of ?_)
  rw [if_neg (by omega)]
  obtain ⟨z, hz⟩ := Int.eq_ofNat_of_zero_le (show 0 ≤ x0 % 301 by omega)
  rw [hz]
  have hz3 : z ≤ 300 := by omega
  refine ⟨fun b g => g = h ∧ (b = false → n1 ≤ 40 ∧ (∀ a ∈ acts, a.n ≤ 60 ∧ a.m ≤ 60)), ?_, ?_⟩
  · refine c7 A1 n1 q1 acts h _ hr hn (asB_of ⟨rfl, by simp⟩) fun hf => asB_of (ifB_of (fun h1 => ⟨rfl, by simp⟩) (fun h1 => ⟨rfl, fun _ => ?_⟩))
    have h1 : n1 ≤ 40 := by simp at h1; omega
    rw [List.take_of_length_le (by omega)] at hf
    exact ⟨h1, hf⟩
  rintro b g ⟨rfl, hfew⟩
  refine ifB_of (fun _ => c8 _ _ fun h' e => asB_of (hk h' e)) (fun hb => ?_)
  obtain ⟨h40, hfew⟩ := hfew hb
  refine c9 z g _ (fun e => by omega) (fun e => by omega) fun _ _ pd S0 g1 e1 k1 => asT2_of (asP_of (asI_of ?_))
  refine c9 z g1 _ (fun e => by omega) (fun e => by omega) fun _ _ ps T0 g2 e2 k2 => asT2_of (asP_of (asI_of ?_))
  rw [Int.toNat_natCast] at k1 k2
  refine ⟨fun b g => b = false ∧ g = g2, ifB_ne (fun h => absurd rfl h) (fun _ => ⟨rfl, rfl⟩), ?_⟩
  rintro b g0 ⟨rfl, rfl⟩
  rw [ifB_false]
  have z1 := e1.size
  have z2 := e2.size
  have zl : (zeros z).length = z := by simp [zeros]
  refine ⟨fun b x gg => b = false ∧ ∃ (j : Nat) (S T : Nat → Prop) (D N : List Int) (U : List (Int × List Int)), x = j ∧ j ≤ n1 ∧ Ext g gg ∧ Dk gg g.size pd S D N U ∧ Dk gg g.size ps T N N [] ∧ (∀ i, S i → ¬ T i) ∧ D.length = z ∧ N = app D U ∧ U.length ≤ j, fun b x gg => (n1 - x).toNat,
    ⟨rfl, 0, S0, T0, zeros z, zeros z, [], rfl, by omega, e1.trans e2, k1.ext e2, k2.weaken z1, fun i hi hT => by have := (k1.base hi).2; have := (k2.base hT).1; omega, zl, rfl, by simp⟩, ?_⟩
  rintro b x gg ⟨rfl, j, S, T, D, N, U, rfl, hj, eg, kd, ks, dis, hD, hN, hU⟩
  refine ifB_dec (fun hlt => ?_) (fun hge => ?_)
  · have hx : acts[j]? = some acts[j] := List.getElem?_eq_getElem (by omega)
    have hmem := List.getElem_mem (show j < acts.length by omega)
    have oka := hok _ hmem
    have fewa := hfew _ hmem
    generalize acts[j] = a at *
    refine rowL_index Act.len (by omega) (hr.ext eg) rfl hx fun b q _ ha => ha.loadN rfl ?_
    refine newVar (by simp) rfl (Act.one a) fun p12 g3 y12 b12 x3 => ?_
    have a12 : At g3 p12 0 a.cells := b12.at_
    have eg3 := eg.trans x3
    have kd3 := kd.ext x3
    have ks3 := ks.ext x3
    have hDl := kd.facts.len
    have hbl : a.bs.length = a.n := by simpa using oka.row.1
    have own : ∀ i, i < g.size → ¬ S i ∧ ¬ T i := fun i hi => ⟨fun e => by have := (kd.base e).1; omega, fun e => by have := (ks.base e).1; omega⟩
    refine ⟨fun x77 b91 b6 g' => b6 = false ∧ ∃ (S T : Nat → Prop) (D N N' : List Int) (U U' : List (Int × List Int)), Ext g g' ∧ Dk g' g.size pd S D N U ∧ Dk g' g.size ps T N' N U' ∧ (∀ i, S i → ¬ T i) ∧ D.length = z ∧ N = app D U ∧ U.length ≤ j + 1, ?_, ?_⟩
    · refine addrK_of rfl (a12.load1 0 rfl rfl (asI_of ?_))
      refine c6 _ _ _ _ (by omega) (asI_of ?_)
      rw [if_neg (by omega)]
      generalize a.Do % 8 = d
      refine ifB_eq (fun hd => ?_) (fun hd => ifB_eq (fun hd5 => ?_) (fun hd5 => ⟨fun g' => Go.Oct.Mod g3 g' S, Go.Oct.Mod.refl _ _, ?_⟩))
      · refine c10 kd3 _ fun S' g4 k4 s4 m4 => asI_of ⟨rfl, S', T, N, N, N, [], [], eg3.then m4 (fun i hi => (kd3.base hi).1), k4, ks3.mod m4 (fun i hi hS => dis i hS hi), fun i hi => dis i (s4 i hi), by omega, rfl, by simp⟩
      · refine addrK_of rfl (a12.load1 3 rfl rfl (asS_of ?_))
        have hfl := oka.fln
        refine c11 kd3 a.B a.m a.d a.fs _ (oka.fro.ext eg3) hfl (fun h0 i hi => (own i (RowH.lt oka.fro (by omega) i hi)).1) (by omega) fun S' g4 k4 s4 m4 => asI_of ?_
        have hcl : (cr a.fs U D U.length).length = z := by
          have := (cr_facts (fs := a.fs) kd.facts.inb kd.facts.byD kd.facts.byU U.length).1
          omega
        refine c12all k4 hcl _ fun A5 q5 g5 x5 l5 => asT2_of (asS_of (asI_of ?_))
        have ks4 := ks3.mod m4 (fun i hi hS => dis i hS hi)
        have ks5 := ks4.ext x5
        refine c13 ks5 0 A5 z q5 _ _ (by omega) (Lst.row (f := bf) l5) (by omega) k4.facts.byN (fun _ i hi hT => by have := l5.2.base_le hi; have := (ks4.base hT).2; omega) (by simp) (fun e => by rw [show N.length = z by omega, lies_all] at e; cases e) fun _ T' g6 k6 t6 m6 => asI_of ?_
        have hks4 := fun i (hi : T i) => (ks4.base hi)
        have hk4 := fun i (hi : S' i) => (k4.base hi)
        have z5 := x5.size
        refine ⟨rfl, S', T', _, _, N, [], _, ((eg3.then m4 (fun i hi => (kd3.base hi).1)).trans x5).then m6 (fun i hi => (hks4 i hi).1), (k4.ext x5).mod m6 (fun i hi hT => dis i (s4 i hi) hT), by rw [lay_all (by omega)] at k6; exact k6, ?_, hcl, rfl, by simp⟩
        intro i hi hT
        rcases t6 i hT with h1 | h1
        · exact dis i (s4 i hi) h1
        · have := (hk4 i hi).2; omega
      · have h12 : ¬ S p12 := fun hi => by have := (kd.base hi).2; omega
        refine addrK_of rfl (At.loadS1m a12 h12 1 rfl rfl (asI_of ?_))
        refine addrK_of rfl (At.loadS1m a12 h12 2 rfl rfl (asS_of ?_))
        refine addrK_of rfl (At.loadS1m a12 h12 1 rfl rfl (asI_of ?_))
        refine addrK_of rfl (At.loadS1m a12 h12 2 rfl rfl (asS_of ?_))
        have hat1 := oka.at1
        have sm := kd.facts.small
        refine c13 kd3 a.At a.A a.n a.c a.bs _ (by omega) (oka.row.ext eg3) (by omega) oka.byt (fun h0 i hi => (own i (RowH.lt oka.row h0 i hi)).1) (by omega) (fun hl => asI_of ⟨Go.Oct.Mod.refl _ _, ?_⟩) fun hl S' g4 k4 s4 m4 => asI_of ⟨m4, ?_⟩
        · refine c13 ks3 a.At a.A a.n a.c a.bs _ (by omega) (oka.row.ext eg3) (by omega) oka.byt (fun h0 i hi => (own i (RowH.lt oka.row h0 i hi)).2) (by simp) (fun _ => asI_of ?_) fun hl2 => ?_
          · exact ifB_ne (fun h => absurd rfl h) (fun _ => ⟨rfl, S, T, D, N, N, U, [], eg3, kd3, ks3, dis, hD, hN, by omega⟩)
          · rw [show N.length = D.length by omega] at hl2
            rw [hl] at hl2; cases hl2
        · have eg4 := eg3.then m4 (fun i hi => (kd3.base hi).1)
          have ks4 := ks3.mod m4 (fun i hi hS => dis i hS hi)
          have hT3 := fun i (hi : T i) => ks3.base hi
          refine c13 ks4 a.At a.A a.n a.c a.bs _ (by omega) (oka.row.ext eg4) (by omega) oka.byt (fun h0 i hi => (own i (RowH.lt oka.row h0 i hi)).2) (by simp) (fun hl2 => ?_) fun hl2 T' g5 k5 t5 m5 => asI_of ?_
          · rw [show N.length = D.length by omega] at hl2
            rw [hl] at hl2; cases hl2
          have hT4 := fun i (hi : T i) => ks4.base hi
          have dis4 : ∀ i, S' i → ¬ T i := fun i hi hT => by
            rcases s4 i hi with h1 | h1
            · exact dis i h1 hT
            · have := (hT3 i hT).2; omega
          refine ifB_ne (fun h => absurd rfl h) (fun _ => ⟨rfl, S', T', D, _, _, _, _, eg4.then m5 (fun i hi => (hT4 i hi).1), k4.mod m5 dis4, k5, fun i hi hT => ?_, hD, by rw [app_plus, hN], by have := plus_len U a.At a.bs; omega⟩)
          rcases t5 i hT with h1 | h1
          · exact dis4 i hi h1
          · have := (k4.base hi).2; omega
    · rintro x77 b91 b6 g4 ⟨rfl, S', T', D', N', N2, U', U2, e4, k4, s4, dis4, hD4, hN4, hU4⟩
      have hl4 := k4.facts.len
      have hl5 := s4.facts.len
      refine c10 s4 _ fun T5 g5 s5 t5 m5 => asI_of ?_
      have k5 := k4.mod m5 (fun i hi hT => dis4 i hi hT)
      have e5 := e4.then m5 (fun i hi => (s4.base hi).1)
      refine c12all k5 hD4 _ fun A6 q6 g6 x6 l6 => asT2_of (asS_of (asI_of ?_))
      refine c12all (s5.ext x6) (by omega) _ fun A7 q7 g7 x7 l7 => asT2_of (asS_of (asI_of ?_))
      refine ⟨fun b g => b = false ∧ g = g7, ?_, ?_⟩
      · refine c14 _ _ _ N' _ _ _ N' _ _ (Lst.row (f := bf) (l6.ext x7)) (Lst.row (f := bf) l7) k5.facts.byN k5.facts.byN (asB_of ?_)
        rw [decide_eq_true rfl]
        exact ⟨by simp, rfl⟩
      rintro b g8 ⟨rfl, rfl⟩
      rw [ifB_false]
      have x67 := x6.trans x7
      refine ⟨⟨rfl, j + 1, S', T5, D', N', U', wrap64_id (by omega) (by omega), by omega, e5.trans x67, k5.ext x67, s5.ext x67, fun i hi hT => dis4 i hi (t5 i hT), hD4, hN4, hU4⟩, ?_⟩
      rw [wrap64_id (by omega) (by omega)]
      dsimp only
      omega
  · have fk := kd.facts
    have hN' : N.length = z := by rw [fk.len, hD]
    refine c15all kd hD _ fun Aw qw f1 x1 lw => asT2_of (asS_of (asI_of ?_))
    refine c12all (kd.ext x1) hD _ fun An qn f2 x2 ln => asT2_of (asS_of (asI_of ?_))
    have x12 := x1.trans x2
    refine c16 (kd.ext x12) (by omega) _ fun C u e' ws f3 x3 wv => asS_of ?_
    have kd3 := kd.ext (x12.trans x3)
    refine c17 kd3 (by omega) _ fun pa Sa f4 x4 ka => asP_of ?_
    refine c17 (kd3.ext x4) (by omega) _ fun pb Sb f5 x5 kb => asP_of ?_
    refine c17 (kd3.ext (x4.trans x5)) (by omega) _ fun pc Sc f6 x6 kc => asP_of ?_
    have hul : ws.length = u := wv.uns.1
    have hUl : U.length = u := by rw [wv.eq, List.length_map]; exact hul
    refine ⟨fun A27 n27 q27 x g => ∃ j : Nat, x = j ∧ j ≤ u ∧ n27 = j ∧ Ext f6 g ∧ Lst g f6.size 44 fcells 2 A27 n27 q27 (keepL j), fun A27 n27 q27 x g => (u - x).toNat, ⟨0, rfl, by omega, rfl, Ext.refl _, Lst.nil⟩, ?_⟩
    rintro A27 n27 q27 x f7 ⟨j', rfl, hj', rfl, x7, lk⟩
    refine ifB_dec (fun hlt => ?_) (fun hge2 => ?_)
    · refine fate_fill (1, (n27 : Int)) (alloc_new fun p g y b xx => src_blk b rfl ?_)
      refine Lst.push (f := fcells) fcells_len (lk.ext xx) (1, (n27 : Int)) rfl (fcells_one _) (by omega) (x7.trans xx).size (by omega) fun A' c' g' l' m' d' => ?_
      refine ⟨⟨n27 + 1, wrap64_id (by omega) (by omega), by omega, rfl, (x7.trans xx).then m' (fun i hi => lk.2.base_le hi), by rw [keepL_succ]; exact l'⟩, ?_⟩
      rw [wrap64_id (by omega) (by omega)]
      dsimp only
      omega
    have hnu : n27 = u := by omega
    have y1 := x1.size
    have y2 := x2.size
    have y3 := x3.size
    have y4 := x4.size
    have y5 := x5.size
    have y6 := x6.size
    have y7 := x7.size
    have ygg := eg.size
    have za := fun i (hi : Sa i) => ka.base hi
    have zb := fun i (hi : Sb i) => kb.base hi
    have zc := fun i (hi : Sc i) => kc.base hi
    have ka7 := ka.ext (x5.trans (x6.trans x7))
    have kb7 := kb.ext (x6.trans x7)
    have kc7 := kc.ext x7
    have e7 : Ext g f7 := eg.trans (x12.trans (x3.trans (x4.trans (x5.trans (x6.trans x7)))))
    refine c11 ka7 A27 n27 q27 (keepL n27) _ lk.2.row lk.1 (fun _ i hi hS => by have := lk.2.base_le hi; have := (za i hS).2; omega) (by omega) fun Sa' f8 ka8 sa8 m8 => asI_of ?_
    have kb8 := kb7.mod m8 (fun i hi hS => by have := (zb i hi).1; have := (za i hS).2; omega)
    have kc8 := kc7.mod m8 (fun i hi hS => by have := (zc i hi).1; have := (za i hS).2; omega)
    refine c11 kb8 none 0 0 [] _ ⟨rfl, fun h => absurd h (by decide)⟩ rfl (fun h => absurd h (by decide)) (by omega) fun Sb' f9 kb9 sb9 m9 => asI_of ?_
    have ka9 := ka8.mod m9 (fun i hi hS => by have := (za i (sa8 i hi)).2; have := (zb i hS).1; omega)
    have kc9 := kc8.mod m9 (fun i hi hS => by have := (zc i hi).1; have := (zb i hS).2; omega)
    have e8 := e7.then m8 (fun i hi => by have := (za i hi).1; omega)
    have e9 := e8.then m9 (fun i hi => by have := (zb i hi).1; omega)
    refine c11 kc9 A2 n2 q2 fs _ (hr2.ext e9) hn2 (fun h0 i hi hS => by have := RowH.lt hr2 (by omega) i hi; have := (zc i hS).1; omega) (by omega) fun Sc' f10 kc10 sc10 m10 => asI_of ?_
    have ka10 := ka9.mod m10 (fun i hi hS => by have := (za i (sa8 i hi)).2; have := (zc i hS).1; omega)
    have kb10 := kb9.mod m10 (fun i hi hS => by have := (zb i (sb9 i hi)).2; have := (zc i hS).1; omega)
    have e10 := e9.then m10 (fun i hi => by have := (zc i hi).1; omega)
    have m710 : Go.Oct.Mod f7 f10 (fun i => f3.size ≤ i ∧ i < f6.size) :=
      (m8.mono fun i _ hi => by have := za i hi; omega).trans ((m9.mono fun i _ hi => by have := zb i hi; omega).trans (m10.mono fun i _ hi => by have := zc i hi; omega))
    rw [cr_kept _ (Nat.le_refl _) (fun i hi => keepL_get _ i (by omega)), List.take_length, ← hN] at ka10
    rw [cr_nil] at kb10
    have hcr := cr_facts (fs := fs) fk.inb fk.byD fk.byU U.length
    have hto := fun k hk => cr_torn (fs := fs) fk.inb fk.byD fk.byU k hk U.length (Nat.le_refl _)
    generalize cr fs U D U.length = Cc at *
    have hCl : Cc.length = z := by rw [hcr.1, hD]
    refine c15all ka10 hN' _ fun A11 q11 f11 x11 l11 => asT2_of (asS_of (asI_of ?_))
    refine c15all (kb10.ext x11) hD _ fun A12 q12 f12 x12' l12 => asT2_of (asS_of (asI_of ?_))
    refine c15all (kc10.ext (x11.trans x12')) hCl _ fun A13 q13 f13 x13 l13 => asT2_of (asS_of (asI_of ?_))
    have x1013 := x11.trans (x12'.trans x13)
    have rw_ : RowH f13 Aw z (D.map bf).toArray := Lst.row (f := bf) (((lw.ext (x2.trans (x3.trans (x4.trans (x5.trans (x6.trans x7)))))).mod m710 (fun i hi hS => by have := lw.2.lt hi; omega)).ext x1013)
    have rn : RowH f13 An z (N.map bf).toArray := Lst.row (f := bf) (((ln.ext (x3.trans (x4.trans (x5.trans (x6.trans x7))))).mod m710 (fun i hi hS => by have := ln.2.lt hi; omega)).ext x1013)
    have wu : Lst f13 f2.size 46 Wt.cells 2 C u e' ws := ((wv.uns.ext (x4.trans (x5.trans (x6.trans x7)))).mod m710 (fun i hi hS => by have := wv.uns.2.lt hi; omega)).ext x1013
    have ww : ∀ w ∈ ws, RowH f13 w.A w.n (w.bs.map bf).toArray := fun w hw => Lst.row (f := bf) ((((wv.wts w hw).ext (x4.trans (x5.trans (x6.trans x7)))).mod m710 (fun i hi hS => by have := (wv.wts w hw).2.lt hi; omega)).ext x1013)
    have e13 := e10.trans x1013
    refine ⟨fun b g => b = false ∧ g = f13, ?_, ?_⟩
    · refine ifB_ne (fun h => absurd rfl h) (fun _ => ifB_ne (fun h => absurd rfl h) (fun _ => ifB_ne (fun h => absurd rfl h) (fun _ => ?_)))
      refine c14 _ _ _ N _ _ _ N _ _ (Lst.row (f := bf) (l11.ext (x12'.trans x13))) rn fk.byN fk.byN (asB_of ?_)
      rw [decide_eq_true rfl]
      refine (show ifB false _ _ from ?_)
      refine c14 _ _ _ D _ _ _ D _ _ (Lst.row (f := bf) (l12.ext x13)) rw_ fk.byD fk.byD (asB_of ?_)
      rw [decide_eq_true rfl]
      refine (show ifB false _ _ from ?_)
      exact ifB_ne (fun h => absurd rfl h) (fun _ => ⟨by simp, rfl⟩)
    rintro b f14 ⟨rfl, rfl⟩
    rw [ifB_false]
    have rc : RowH f14 A13 z (Cc.map bf).toArray := Lst.row (f := bf) l13
    refine ⟨fun b x g => b = false ∧ g = f14 ∧ ∃ k : Nat, x = k ∧ k ≤ z, fun b x g => (z - x).toNat, ⟨rfl, rfl, 0, rfl, by omega⟩, ?_⟩
    rintro b x f15 ⟨rfl, rfl, k', rfl, hk'⟩
    refine ifB_dec (fun hlt => draw_ext ?_) (fun hge3 => ?_)
    · have hC : Cc[k']? = some Cc[k'] := List.getElem?_eq_getElem (by omega)
      have hDk : D[k']? = some D[k'] := List.getElem?_eq_getElem (by omega)
      refine row_loadS (f := bf) rc rfl hC (asI_of ?_)
      refine row_loadS (f := bf) rw_ rfl hDk (asI_of ?_)
      refine ⟨fun b x g => g = f15 ∧ ∃ q : Nat, x = q ∧ q ≤ u ∧ (Cc[k']? = D[k']? → b = true) ∧ (∀ q', q' < q → cov U Cc k' q' → b = true), fun b x g => (u - x).toNat, ⟨rfl, 0, rfl, by omega, fun h => ?_, fun q' h => by omega⟩, ?_⟩
      · rw [hC, hDk] at h
        simpa using h
      rintro b36 x f16 ⟨rfl, q, rfl, hq, hi1, hi2⟩
      refine ifB_dec (fun hlt2 => ?_) (fun hge4 => ?_)
      · refine ⟨fun b g => g = f16 ∧ (b36 = true → b = true) ∧ (cov U Cc k' q → b = true), draw_ext ?_, ?_⟩
        · refine ifB_of (fun hb => ⟨rfl, fun _ => rfl, fun _ => rfl⟩) (fun hb => ?_)
          have hx : ws[q]? = some ws[q] := List.getElem?_eq_getElem (by omega)
          have hUq : U[q]? = some (ws[q].At, ws[q].bs) := by rw [wv.eq, List.getElem?_map, hx]; rfl
          have hmem := List.getElem_mem (show q < ws.length by omega)
          generalize ws[q] = w at *
          have hwr := ww w hmem
          have hwl : w.bs.length = w.n := by simpa using hwr.1
          have hin := fk.inb _ (List.mem_of_getElem? hUq)
          dsimp only at hin
          have noc : ¬ (w.At ≤ k' ∧ (k' : Int) < w.At + w.n) → cov U Cc k' q → False := by
            rintro hno ⟨w', h1, h2, h3, h4⟩
            rw [hUq] at h1
            cases h1
            dsimp only at h2 h3
            omega
          refine wu.index Wt.len rfl hx fun b _ ha => addrK_of rfl (ha.loadS1 0 rfl rfl (asI_of ?_))
          refine ifB_dec (fun h1 => ?_) (fun h1 => ⟨rfl, fun h => (by rw [hb] at h; cases h), fun h => (noc (by omega) h).elim⟩)
          refine wu.index Wt.len rfl hx fun b _ ha => addrK_of rfl (ha.loadS1 0 rfl rfl (asI_of ?_))
          refine wu.index Wt.len rfl hx fun b _ ha => addrK_of rfl (ha.loadS1 1 rfl rfl (asS_of ?_))
          have hsm := fk.small
          rw [wrap64_id (by omega) (by omega)]
          refine ifB_dec (fun h2 => ?_) (fun h2 => ⟨rfl, fun h => (by rw [hb] at h; cases h), fun h => (noc (by omega) h).elim⟩)
          refine wu.index Wt.len rfl hx fun b _ ha => addrK_of rfl (ha.loadS1 1 rfl rfl (asS_of ?_))
          refine wu.index Wt.len rfl hx fun b _ ha => addrK_of rfl (ha.loadS1 0 rfl rfl (asI_of ?_))
          rw [wrap64_id (by omega) (by omega)]
          have hwg : w.bs[k' - w.At.toNat]? = some (w.bs[k' - w.At.toNat]'(by omega)) := List.getElem?_eq_getElem (by omega)
          refine row_loadS (f := bf) hwr (j := k' - w.At.toNat) (by omega) hwg (asI_of ?_)
          refine row_loadS (f := bf) rc rfl hC (asI_of ?_)
          refine ⟨rfl, fun h => (by rw [hb] at h; cases h), ?_⟩
          rintro ⟨w', h1, h3, h4, h5⟩
          rw [hUq] at h1
          cases h1
          dsimp only at h5
          rw [hwg, hC] at h5
          simpa using h5
        rintro b f17 ⟨rfl, hb1, hb2⟩
        refine ⟨⟨rfl, q + 1, wrap64_id (by omega) (by omega), by omega, fun h => hb1 (hi1 h), fun q' h h2 => ?_⟩, ?_⟩
        · rcases Nat.lt_or_ge q' q with h3 | h3
          · exact hb1 (hi2 q' h3 h2)
          · have : q' = q := by omega
            subst this
            exact hb2 h2
        · rw [wrap64_id (by omega) (by omega)]
          dsimp only
          omega
      · have hb : b36 = true := by
          rcases hto k' (by omega) with h1 | ⟨q', w, h1, h2, h3, h4, h5⟩
          · exact hi1 h1
          · exact hi2 q' (by omega) ⟨w, h2, h3, h4, h5⟩
        subst hb
        refine (show ifB false _ _ from ?_)
        refine ⟨⟨rfl, rfl, k' + 1, wrap64_id (by omega) (by omega), by omega⟩, ?_⟩
        rw [wrap64_id (by omega) (by omega)]
        dsimp only
        omega
    · refine c16 (kc10.ext x1013) (by simp) _ fun C2 u2 e2' ws2 f16 x16 wv2 => asS_of ?_
      have hw2 : ws2 = [] := by
        have := wv2.eq
        simpa using this.symm
      have hu2 := wv2.uns.1
      rw [hw2] at hu2
      simp at hu2
      subst hu2
      refine ifB_eq (fun _ => ?_) (fun h => absurd rfl h)
      exact c8 _ _ fun h' e => asB_of (hk h' (e13.trans (x16.trans e)))
end Go.Proofs.Ytfeodnhklibegaa
