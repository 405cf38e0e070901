/- What is proved: contracts of functions that the law calls, and of the law itself, over any heap. Conditions stand in each theorem. -/
import Derived.Test.YtfeodnhklibegaaXK13q
set_option linter.unusedSimpArgs false
set_option linter.unusedVariables false
namespace Go.Proofs.Ytfeodnhklibegaa
open Go.Oct Go.Oct.L01
set_option maxHeartbeats 1000000 in
/-- DiskPlays -/
theorem c20 (x0 : Int) (A1 : Option Addr) (n1 q1 : Nat) (acts : List Act) (x2 x3 : Int) (h : H) (k : Value → H → Prop) (hr : RowH h A1 (n1 * 4) (cellsOf Act.cells acts)) (hn : acts.length = n1) (hok : ∀ a ∈ acts, a.ok h) (hx2 : x2 ≤ 9223372036854775807)
    (hk : ∀ h', Ext h h' → k (.bool true) h') : callK Try.prog 20 #[.int .i64 x0, .slice A1 n1 q1, .int .i64 x2, .int .i64 x3] h k := by
  refine call20 _ _ _ _ _ _ _ _ ?_
  unfold d20
  refine ⟨fun b g => g = h ∧ (b = false → (x0 ≤ 300 ∨ 65536 < x0) ∧ n1 ≤ 40 ∧ (∀ a ∈ acts, a.n ≤ 60 ∧ a.m ≤ 60)), ?_, ?_⟩
  · have fewK : (x0 ≤ 300 ∨ 65536 < x0) → callK Try.prog 7 #[.slice A1 n1 q1] h (fun v42 h_1 => asB v42 (fun b42 => (fun (b : Bool) (g : H) => g = h ∧ (b = false → (x0 ≤ 300 ∨ 65536 < x0) ∧ n1 ≤ 40 ∧ (∀ a ∈ acts, a.n ≤ 60 ∧ a.m ≤ 60))) (!b42) h_1)) := by
      intro h0
      refine c7 A1 n1 q1 acts h _ hr hn (asB_of ⟨rfl, by simp⟩) fun hf => asB_of ⟨rfl, fun h1 => ?_⟩
      have h1 : n1 ≤ 40 := by simp at h1; omega
      rw [List.take_of_length_le (by omega)] at hf
      exact ⟨h0, h1, hf⟩
    exact ifB_dec (fun h1 => ifB_dec (fun h2 => ⟨rfl, by simp⟩) (fun h2 => fewK (.inr (by omega)))) (fun h1 => fewK (.inl (by omega)))
  rintro b g ⟨rfl, hfew⟩
  refine ifB_of (fun _ => c8 _ _ fun h' e => asB_of (hk h' e)) (fun hb => ?_)
  obtain ⟨hx0, h40, hfw⟩ := hfew hb
  have errs2 : ∀ e : Int, e ≠ 0 → ∀ g1, Ext g g1 → ∀ (rest : Option Addr → H → Prop), allocK (List.toArray [.string ⟨#[]⟩, .slice none 0 0]) 66 g1 (fun p11 h => storeK 2 p11 (rdv [] none 0 0) h (fun h => joinK [.bool] (fun (J_1 : Bool → H → Prop) => ifB (e != e) (J_1 true h) (needK ((none : Option Addr) = none ∨ (none : Option Addr) = none) (J_1 (!((Option.isNone (none : Option Addr) && Option.isNone (none : Option Addr)) == (e != 0))) h))) (fun (b65 : Bool) (h : H) => ifB b65 (k (.bool false) h) (ifB (e != 0) (callK Try.prog 8 #[] h (fun v68 h => asB v68 (fun b68 => k (.bool b68) h))) (rest p11 h))))) := by
    intro e he g1 x1 rest
    refine newVar (by simp) rfl (by simp [OneCells, rdv, sv, Value.oneCell']) fun p11 g2 y2 b2 x2 => ?_
    refine ⟨fun b g => b = false ∧ g = g2, ifB_ne (fun h => absurd rfl h) (fun _ => ⟨.inl rfl, ?_, rfl⟩), ?_⟩
    · have : (e != 0) = true := by simpa using he
      rw [this]; rfl
    rintro b g' ⟨rfl, rfl⟩
    rw [ifB_false]
    exact ifB_ne (fun _ => c8 _ _ fun h' x => asB_of (hk h' (x1.trans (x2.trans x)))) (fun h => absurd h he)
  refine c9 x0 g _ (fun hneg => ?_) (fun hbig => ?_) fun h0 h1 pd S0 g1 e1 kd => ?_
  · refine asT2_of (asP_of (asI_of ?_))
    refine c33 x0 g _ (fun _ g2 x => ?_) (fun h => by omega) (fun h => by omega)
    exact asT2_of (asA_of rfl (asI_of (errs2 2 (by decide) g2 x _)))
  · refine asT2_of (asP_of (asI_of ?_))
    refine c33 x0 g _ (fun h => by omega) (fun _ g2 x => ?_) (fun h => by omega)
    exact asT2_of (asA_of rfl (asI_of (errs2 3 (by decide) g2 x _)))
  refine asT2_of (asP_of (asI_of ?_))
  refine c33 x0 g1 _ (fun h => by omega) (fun h => by omega) fun _ _ g2 e2 => asT2_of (asA_of rfl (asI_of ?_))
  obtain ⟨z, rfl⟩ := Int.eq_ofNat_of_zero_le h0
  rw [Int.toNat_natCast] at kd ⊢
  have hz : z ≤ 300 := by omega
  have zl : (zeros z).length = z := by simp [zeros]
  refine newVar (by simp) rfl (by simp [OneCells, rdv, sv, Value.oneCell']) fun p11 g3 y3 b3 e3 => ?_
  refine ⟨fun b g => b = false ∧ g = g3, ifB_ne (fun h => absurd rfl h) (fun _ => ⟨.inr rfl, rfl, rfl⟩), ?_⟩
  rintro b g4 ⟨rfl, rfl⟩
  rw [ifB_false]
  refine ifB_ne (fun h => absurd rfl h) (fun _ => ?_)
  have e23 := e2.trans e3
  have e13 := e1.trans e23
  have kd4 := kd.ext e23
  have a11 : At g4 p11 0 [sv (zeros z), .slice none 0 0] := b3.at_
  have s1 := e1.size
  have s2 := e2.size
  have s3 := e3.size
  have lt3 := b3.lt
  -- both begin
  refine ⟨fun p14 p13 g' => ∃ b14 b13 F, p14 = some ⟨b14, 0, none⟩ ∧ p13 = some ⟨b13, 0, none⟩ ∧ DP g pd p11 b14 b13 F z g' S0 (zeros z) (zeros z) [] none 0 0, ?_, ?_⟩
  · have fin : ∀ g' b14 b13 F, Ext g4 g' → Blk g' b14 (rdv (zeros z) none 0 0) 66 → g4.size ≤ b14 → Dk g' g4.size b13 F (zeros z) (zeros z) [] → DP g pd p11 b14 b13 F z g' S0 (zeros z) (zeros z) [] none 0 0 := by
      intro g' b14 b13 F x k14 y14 kf
      have hS : ∀ i, S0 i → i < g1.size := fun i hi => (kd.base hi).2
      have hF : ∀ i, F i → g4.size ≤ i := fun i hi => (kf.base hi).1
      exact ⟨e13.trans x, kd4.ext x, rfl, RD.nil g' (zeros_isB z) (by omega), b3.ext x, k14, kf.weaken e13.size, zl, by omega, fun i hi => by have := hS i hi; exact ⟨by omega, by omega, fun e => by have := hF i e; omega⟩, (by rintro i ⟨_, e, _⟩; cases e), fun e => by have := hF _ e; omega, by omega⟩
    refine draw_ext (a11.loadSN rfl ⟨?_, ?_⟩)
    · refine c17 kd4 (by simp) _ fun p F g5 x5 kf => asP_of ⟨x5, ?_⟩
      refine alloc_new fun b14 g6 y6 b6 x6 => ⟨x5.trans x6, ?_⟩
      refine store_blk b6 rfl (by simp) (by simp [OneCells, sv, Value.oneCell']) fun g7 b7 m7 => ?_
      have b7 : Blk g7 b14 (rdv (zeros z) none 0 0) 66 := b7
      have y5 := x5.size
      exact ⟨b14, p, F, rfl, rfl, fin g7 b14 p F ((x5.trans x6).then m7 (fun i hi => by omega)) b7 (by omega) ((kf.ext x6).mod m7 (fun i hi e => by have := (kf.base hi).2; omega))⟩
    · refine alloc_new fun b14 g6 y6 b6 x6 => ⟨x6, ?_⟩
      refine c17 (kd4.ext x6) (by simp) _ fun p F g5 x5 kf => asP_of ⟨x6.trans x5, ?_⟩
      refine store_blk (b6.ext x5) rfl (by simp) (by simp [OneCells, sv, Value.oneCell']) fun g7 b7 m7 => ?_
      have b7 : Blk g7 b14 (rdv (zeros z) none 0 0) 66 := b7
      have y5 := x6.size
      have l6 := b6.lt
      exact ⟨b14, p, F, rfl, rfl, fin g7 b14 p F ((x6.trans x5).then m7 (fun i hi => by omega)) b7 (by omega) ((kf.weaken y5).mod m7 (fun i hi e => by have := (kf.base hi).1; omega))⟩
  rintro p14 p13 g5 ⟨b14, b13, F, rfl, rfl, dp⟩
  refine ⟨fun b x gg => b = false ∧ ∃ (j : Nat) (S : Nat → Prop) (D N : List Int) (U : List (Int × List Int)) (L : Option Addr) (n q : Nat), x = j ∧ j ≤ n1 ∧ DP g pd p11 b14 b13 F z gg S D N U L n q ∧ U.length ≤ j, fun b x gg => (n1 - x).toNat,
    ⟨rfl, 0, S0, _, _, _, _, _, _, rfl, by omega, dp, by simp⟩, ?_⟩
  rintro b x gg ⟨rfl, j, S, D, N, U, L, n, q, rfl, hj, s, hU⟩
  refine ifB_dec (fun hlt => ?_) (fun hge => ?_)
  · have hx : acts[j]? = some acts[j] := List.getElem?_eq_getElem (by omega)
    have hmem := List.getElem_mem (show j < acts.length by omega)
    have oka := hok _ hmem
    have fewa := hfw _ hmem
    generalize acts[j] = a at *
    refine rowL_index Act.len (by omega) (hr.ext s.ext) rfl hx fun b o16 _ ha => ha.loadN rfl ?_
    refine newVar (by simp) rfl (Act.one a) fun p16 g6 y16 b16 x6 => ?_
    have a16 : At g6 p16 0 a.cells := b16.at_
    have s6 := s.grow x6
    refine addrK_of rfl (a16.load1 2 rfl rfl (asS_of ?_))
    refine c34 none 0 0 [] a.A a.n a.c a.bs g6 _ RowH.nil (oka.row.ext s6.ext) (by omega) ?_
    intro A84 q84 g7 x7 l84
    refine asS_of ?_
    rw [Nat.zero_add, List.nil_append] at *
    have s7 := s6.grow x7
    have a17 := a16.ext x7
    have hbl : a.bs.length = a.n := l84.1
    have z6 := x6.size
    have z7 := x7.size
    have n84 : ∀ i, blkOf A84 i → g6.size ≤ i ∧ i < g7.size := fun i hi => ⟨l84.2.base_le hi, l84.2.lt hi⟩
    have old : ∀ i, blkOf A84 i → g.size ≤ i ∧ i ≠ p11 ∧ i ≠ b14 ∧ ¬ F i ∧ ¬ S i ∧ ¬ blkOf L i := fun i hi => by
      have h1 := (n84 i hi).1
      have h2 := s6.k11.lt
      have h3 := s6.k14.lt
      have h4 := s6.ext.size
      exact ⟨by omega, by omega, by omega, fun e => by have := (s6.fst.base e).2; omega, fun e => by have := (s6.dk.base e).2; omega, fun e => by have := s6.rd.lt i e; omega⟩
    have a11 : At g7 p11 0 [sv D, .slice L n q] := s7.k11.at_
    have h12 : ¬ S p11 := fun e => (s.dS _ e).1 rfl
    have lt16 := b16.lt
    have n16 : ¬ S p16 := fun e => by have := (s.dk.base e).2; omega
    have lt11 := s.k11.lt
    refine ⟨fun x77 b91 b6 g' => b6 = false ∧ ∃ (S : Nat → Prop) (D N : List Int) (U : List (Int × List Int)) (L : Option Addr) (n q : Nat), DP g pd p11 b14 b13 F z g' S D N U L n q ∧ U.length ≤ j + 1 ∧ Byt g' g6.size A84 a.n q84 a.bs ∧ (∀ i, blkOf A84 i → g.size ≤ i ∧ i ≠ p11 ∧ i ≠ b14 ∧ ¬ F i ∧ ¬ S i ∧ ¬ blkOf L i), ?_, ?_⟩
    · refine addrK_of rfl (a17.load1 0 rfl rfl (asI_of ?_))
      refine c6 _ _ _ _ (by omega) (asI_of ?_)
      rw [if_neg (by omega)]
      generalize a.Do % 8 = d
      refine ⟨fun b g' => g' = g7 ∧ b = decide (d = 0 ∨ d = 1 ∨ d = 2 ∨ d = 3), ?_, ?_⟩
      · refine ifB_eq (fun h => ⟨rfl, by simp [h]⟩) (fun h1 => ifB_eq (fun h => ⟨rfl, by simp [h]⟩) (fun h2 => ifB_eq (fun h => ⟨rfl, by simp [h]⟩) (fun h3 => ⟨rfl, ?_⟩)))
        rw [beq_dec]; simp [h1, h2, h3]
      rintro b g' ⟨rfl, rfl⟩
      refine ifB_dec (fun _ => ?_) (fun _ => ifB_eq (fun _ => ?_) (fun _ => ifB_eq (fun _ => ?_) (fun _ => ?_)))
      · -- Write
        refine a11.loadN rfl ?_
        refine addrK_of rfl (a17.load1 1 rfl rfl (asI_of ?_))
        refine addrK_of rfl (a17.load1 2 rfl rfl (asS_of ?_))
        refine strK_of (oka.row.ext s7.ext) ?_
        have fd := s7.dk.facts
        have stepW : ∀ (L' : Option Addr) (n' q' : Nat) (U' : List (Int × List Int)) (e : Int) (g8 : H), Ext g' g8 → RD g8 L' n' D U' → (∀ i, blkOf L' i → blkOf L i ∨ g'.size ≤ i) → (liesB D.length a.At a.bs.length = false → e = 130 ∧ U' = U) → (liesB D.length a.At a.bs.length = true → e = 0 ∧ U' = plus U a.At a.bs) →
            allocK (List.toArray [.string ⟨#[]⟩, .slice none 0 0]) 66 g8 (fun p18 h => storeK 2 p18 (rdv D L' n' q') h (fun h => addrK (some ⟨p16, 0, none⟩) 1 (fun p104 => load1 p104 h (fun v105 => asI .i64 v105 (fun x105 => callK Try.prog 13 #[(.pointer (some ⟨pd, 0, none⟩)), (.int .i64 x105), (.slice A84 a.n q84)] h (fun v107 h => asI .i64 v107 (fun x107 => ifB (x107 != e) (k (.bool false) h) (loadN 2 p18 h (fun c110 => storeK 2 (some ⟨p11, 0, none⟩) c110 h (fun h => (fun (x77 : Int) (b91 b6 : Bool) (g' : H) => b6 = false ∧ ∃ (S : Nat → Prop) (D N : List Int) (U : List (Int × List Int)) (L : Option Addr) (n q : Nat), DP g pd p11 b14 b13 F z g' S D N U L n q ∧ U.length ≤ j + 1 ∧ Byt g' g6.size A84 a.n q84 a.bs ∧ (∀ i, blkOf A84 i → g.size ≤ i ∧ i ≠ p11 ∧ i ≠ b14 ∧ ¬ F i ∧ ¬ S i ∧ ¬ blkOf L i)) d true false h)))))))))) := by
          intro L' n' q' U' e g8 x8 r8 hL8 hno hyes
          refine newVar (by simp) rfl (by simp [OneCells, rdv, sv, Value.oneCell']) fun p18 g9 y9 b9 x9 => ?_
          have x79 := x8.trans x9
          have zz := x8.size
          have zz9 := x9.size
          refine addrK_of rfl ((a17.ext x79).load1 1 rfl rfl (asI_of ?_))
          have h18 : ¬ S p18 := fun e => by have := (s7.dk.base e).2; omega
          have lt18 := b9.lt
          have hat1 := oka.at1
          refine c13 (s7.dk.ext x79) a.At A84 a.n q84 a.bs _ hat1 (Lst.row (f := bf) (l84.ext x79)) (by omega) oka.byt (fun _ i hi => (old i hi).2.2.2.2.1) (by omega) (fun hl => asI_of ?_) fun hl S' g10 k10 s10 m10 => asI_of ?_
          · rw [hbl.symm] at hl
            obtain ⟨rfl, rfl⟩ := hno hl
            refine ifB_ne (fun h => absurd rfl h) (fun _ => ?_)
            have a18 : At g9 p18 0 [sv D, .slice L' n' q'] := b9.at_
            refine a18.loadN rfl ?_
            refine store_blk (s7.k11.ext x79) rfl (by simp [rdv]) (by simp [OneCells, sv, Value.oneCell']) fun g11 b11 m11 => ?_
            have b11 : Blk g11 p11 (rdv D L' n' q') 66 := b11
            have st := s7.step (x79) (Go.Oct.Mod.refl g9 S) (s7.dk.ext x79) (fun i hi => .inl hi) (Ext.refl _) (r8.ext x9) (fun i hi => (hL8 i hi).imp id (fun e => ⟨e, by have := r8.lt i hi; omega⟩)) m11 b11 s7.eq s7.len
            refine ⟨rfl, S, D, N, _, L', n', q', st, by omega, (l84.ext x79).mod m11 (fun i hi => (old i hi).2.1), fun i hi => ?_⟩
            have o := old i hi
            refine ⟨o.1, o.2.1, o.2.2.1, o.2.2.2.1, o.2.2.2.2.1, fun e => ?_⟩
            rcases hL8 i e with h1 | h1
            · exact o.2.2.2.2.2 h1
            · have := (n84 i hi).2; omega
          · rw [hbl.symm] at hl
            obtain ⟨rfl, rfl⟩ := hyes hl
            refine ifB_ne (fun h => absurd rfl h) (fun _ => ?_)
            have a18 : At g10 p18 0 [sv D, .slice L' n' q'] := (b9.mod m10 h18).at_
            refine a18.loadN rfl ?_
            have b10 : Blk g10 p11 (rdv D L n q) 66 := (s7.k11.ext x79).mod m10 h12
            refine store_blk b10 rfl (by simp [rdv]) (by simp [OneCells, sv, Value.oneCell']) fun g11 b11 m11 => ?_
            have b11 : Blk g11 p11 (rdv D L' n' q') 66 := b11
            have hLS : ∀ i, blkOf L' i → ¬ S i := fun i hi e => by
              rcases hL8 i hi with h1 | h1
              · exact (s7.dL i h1).2 e
              · have := (s7.dk.base e).2; omega
            have st := s7.step x79 m10 k10 s10 (Ext.refl _) ((r8.ext x9).mod m10 hLS) (fun i hi => (hL8 i hi).imp id (fun e => ⟨e, by have := r8.lt i hi; omega⟩)) m11 b11 (by rw [app_plus, s7.eq]) s7.len
            have hpl := plus_len U a.At a.bs
            refine ⟨rfl, S', D, _, _, L', n', q', st, by omega, ((l84.ext x79).mod m10 (fun i hi => (old i hi).2.2.2.2.1)).mod m11 (fun i hi => (old i hi).2.1), fun i hi => ?_⟩
            have o := old i hi
            refine ⟨o.1, o.2.1, o.2.2.1, o.2.2.2.1, fun e => ?_, fun e => ?_⟩
            · rcases s10 i e with h1 | h1
              · exact o.2.2.2.2.1 h1
              · have := (n84 i hi).2; omega
            · rcases hL8 i e with h1 | h1
              · exact o.2.2.2.2.2 h1
              · have := (n84 i hi).2; omega
        refine c35 s7.rd a.At a.bs _ oka.at1 oka.byt (by omega) (fun hl g8 x8 => ?_) (fun hl L' n' q' g8 x8 r8 hL8 => ?_)
        · exact asT2_of (asA_of rfl (asI_of (stepW L n q U 130 g8 x8 (s7.rd.ext x8) (fun i hi => .inl hi) (fun _ => ⟨rfl, rfl⟩) (fun e => by rw [hl] at e; cases e))))
        · exact asT2_of (asA_of rfl (asI_of (stepW L' n' q' _ 0 g8 x8 r8 hL8 (fun e => by rw [hl] at e; cases e) (fun _ => ⟨rfl, rfl⟩))))
      · -- Sync
        refine c10 s7.dk _ fun S' g8 k8 s8 m8 => asI_of ?_
        refine ifB_ne (fun h => absurd rfl h) (fun _ => ?_)
        have b8 := s7.k11.mod m8 h12
        have a18 : At g8 p11 0 [sv D, .slice L n q] := b8.at_
        refine a18.loadN rfl ?_
        have r8 := s7.rd.mod m8 (fun i hi => (s7.dL i hi).2)
        refine c36 r8 _ fun g9 x9 r9 => asA_of rfl ?_
        refine store_blk (b8.ext x9) rfl (by simp [rdv]) (by simp [OneCells, rdv, sv, Value.oneCell']) fun g11 b11 m11 => ?_
        have b11 : Blk g11 p11 (rdv (app D U) none 0 0) 66 := b11
        have hNl : N.length = z := by rw [s7.dk.facts.len, s7.len]
        rw [← s7.eq] at b11 r9
        have st := s7.step (Ext.refl _) m8 k8 (fun i hi => .inl (s8 i hi)) x9 r9 (by rintro i ⟨_, e, _⟩; cases e) m11 b11 rfl hNl
        refine ⟨rfl, S', N, N, [], none, 0, 0, st, by simp, ((l84.mod m8 (fun i hi => (old i hi).2.2.2.2.1)).ext x9).mod m11 (fun i hi => (old i hi).2.1), fun i hi => ?_⟩
        have o := old i hi
        exact ⟨o.1, o.2.1, o.2.2.1, o.2.2.2.1, fun e => o.2.2.2.2.1 (s8 i e), by rintro ⟨_, e, _⟩; cases e⟩
      · -- Crash
        refine ⟨fun g'' => Go.Oct.Mod g' g'' S, Go.Oct.Mod.refl _ _, ?_⟩
        refine addrK_of rfl (At.loadS1m a17 n16 3 rfl rfl (asS_of ?_))
        refine addrK_of rfl (At.loadS1m a11 h12 1 rfl rfl (asS_of ?_))
        have hfl := oka.fln
        have frs : ∀ i, i < g.size → ¬ S i := fun i hi e => by have := (s.dk.base e).1; omega
        refine c11 s7.dk a.B a.m a.d a.fs _ (oka.fro.ext s7.ext) hfl (fun h0 i hi => frs i (RowH.lt oka.fro (by omega) i hi)) (by omega) fun S' g8 k8 s8 m8 => asI_of ⟨m8, ?_⟩
        have hrl := s7.rd.len
        refine ifB_ne (fun h => absurd (by omega) h) (fun _ => draw_ext ?_)
        have b8 := s7.k11.mod m8 h12
        have a18 : At g8 p11 0 [sv D, .slice L n q] := b8.at_
        have a168 := a17.mod m8 n16
        refine a18.loadSN rfl ?_
        refine addrK_of rfl (a168.loadS1 3 rfl rfl (asS_of ?_))
        have r8 := s7.rd.mod m8 (fun i hi => (s7.dL i hi).2)
        have e8 := s7.ext.then m8 (fun i hi => (s7.dk.base hi).1)
        refine c38 a.B a.m a.d a.fs g8 _ (oka.fro.ext e8) hfl (by omega) fun A9 q9 g9 x9 r9f => asS_of ⟨x9, ?_⟩
        refine c37 (r8.ext x9) A9 a.m q9 a.fs _ r9f hfl fun g10 x10 r10 => asA_of rfl ?_
        refine store_blk (b8.ext (x9.trans x10)) rfl (by simp [rdv]) (by simp [OneCells, rdv, sv, Value.oneCell']) fun g11 b11 m11 => ?_
        have b11 : Blk g11 p11 (rdv (cr a.fs U D U.length) none 0 0) 66 := b11
        have fd := s7.dk.facts
        have hcl : (cr a.fs U D U.length).length = z := by
          have := (cr_facts (fs := a.fs) fd.inb fd.byD fd.byU U.length).1
          rw [this, s7.len]
        have st := s7.step (Ext.refl _) m8 k8 (fun i hi => .inl (s8 i hi)) (x9.trans x10) r10 (by rintro i ⟨_, e, _⟩; cases e) m11 b11 rfl hcl
        refine ⟨rfl, S', _, _, [], none, 0, 0, st, by simp, ((l84.mod m8 (fun i hi => (old i hi).2.2.2.2.1)).ext (x9.trans x10)).mod m11 (fun i hi => (old i hi).2.1), fun i hi => ?_⟩
        have o := old i hi
        exact ⟨o.1, o.2.1, o.2.2.1, o.2.2.2.1, fun e => o.2.2.2.2.1 (s8 i e), by rintro ⟨_, e, _⟩; cases e⟩
      · exact ⟨rfl, S, D, N, U, L, n, q, s7, by omega, l84, old⟩
    · rintro x77 b91 b6 g8 ⟨rfl, S', D', N', U', L', n', q', s8, hU8, l8, old8⟩
      refine bump l8 (by omega) fun g9 m9 => ?_
      have s9 := s8.mod m9 old8
      refine ⟨fun b x g' => b = false ∧ ∃ t : Nat, x = t ∧ t ≤ 2 ∧ DP g pd p11 b14 b13 F z g' S' D' N' U' L' n' q', fun b x g' => (2 - x).toNat, ⟨rfl, 0, rfl, by omega, s9⟩, ?_⟩
      rintro b x gt ⟨rfl, t, rfl, ht, st⟩
      refine ifB_dec (fun hlt2 => ?_) (fun hge2 => ?_)
      rotate_left
      · refine ⟨⟨rfl, j + 1, S', D', N', U', L', n', q', wrap64_id (by omega) (by omega), by omega, st, hU8⟩, ?_⟩
        rw [wrap64_id (by omega) (by omega)]
        dsimp only
        omega
      have fd := st.dk.facts
      have hNl : N'.length = z := by rw [fd.len, st.len]
      have hdn : rdn z x2 x3 ≤ z := rdn_le
      refine c12p st.dk st.len x2 x3 _ hx2 fun Ax qx g10 x10 lx => asT2_of (asS_of (asI_of (draw_ext ?_)))
      have a11 : At g10 p11 0 [sv D', .slice L' n' q'] := (st.k11.ext x10).at_
      refine a11.loadSN rfl (a11.loadSN rfl ?_)
      refine c40 (st.rd.ext x10) _ fun g11 x11 => asStr_of ⟨x11, ?_⟩
      rw [← st.eq]
      have xa := x10.trans x11
      refine c39p (st.rd.ext xa) st.len N' hNl fd.byN x2 x3 _ hx2 fun Ay qy g12 x12 ly => asT2_of (asS_of (asI_of ?_))
      have xb := xa.trans x12
      refine c15p (st.dk.ext xb) st.len x2 x3 _ hx2 fun Av qv g13 x13 lv => asT2_of (asS_of (asI_of ?_))
      have xc := xb.trans x13
      have a13 : At g13 p11 0 [sv D', .slice L' n' q'] := (st.k11.ext xc).at_
      refine a13.loadN rfl (addrK_of rfl (a13.load1 0 rfl rfl (asStr_of ?_)))
      refine c39p (st.rd.ext xc) st.len D' st.len fd.byD x2 x3 _ hx2 fun Aw qw g14 x14 lw => asT2_of (asS_of (asI_of ?_))
      have xd := xc.trans x14
      refine c16 (st.dk.ext xd) (by omega) _ fun C u e' ws g15 x15 wv => asS_of ?_
      have xe := xd.trans x15
      have a15 : At g15 p11 0 [sv D', .slice L' n' q'] := (st.k11.ext xe).at_
      have c15' : At g15 b14 0 [sv (zeros z), .slice none 0 0] := (st.k14.ext xe).at_
      refine ⟨fun b g' => b = false ∧ Ext g15 g', draw_ext ?_, ?_⟩
      · refine ifB_ne (fun h => absurd rfl h) (fun _ => ifB_ne (fun h => absurd rfl h) (fun _ => ?_))
        refine c14 _ _ _ (rdp z N' x2 x3) _ _ _ (rdp z N' x2 x3) _ _ (Lst.row (f := bf) (lx.ext (x11.trans (x12.trans (x13.trans (x14.trans x15)))))) (Lst.row (f := bf) (ly.ext (x13.trans (x14.trans x15)))) (rdp_isB fd.byN _ _) (rdp_isB fd.byN _ _) (asB_of ⟨Ext.refl _, ?_⟩)
        rw [decide_eq_true rfl, ifB_nt]
        refine c14 _ _ _ (rdp z D' x2 x3) _ _ _ (rdp z D' x2 x3) _ _ (Lst.row (f := bf) (lv.ext (x14.trans x15))) (Lst.row (f := bf) (lw.ext x15)) (rdp_isB fd.byD _ _) (rdp_isB fd.byD _ _) (asB_of ⟨Ext.refl _, ?_⟩)
        rw [decide_eq_true rfl, ifB_nt]
        refine a15.loadSN rfl ?_
        refine c41 (st.dk.ext xe) (st.rd.ext xe) st.eq (by omega) _ fun g16 x16 => asB_of ⟨x16, ?_⟩
        rw [ifB_nt]
        refine a15.loadSN rfl (c15'.loadSN rfl ?_)
        refine c19 (st.dk.ext (xe.trans x16)) (st.fst.ext (xe.trans x16)) (by omega) _ fun g17 x17 => asB_of ⟨x16.trans x17, ?_⟩
        refine c42 (st.rd.ext (xe.trans (x16.trans x17))) (RD.nil g17 (zeros_isB z) (by omega)) _ fun g18 x18 => asB_of ⟨?_, x16.trans (x17.trans x18)⟩
        simp
      rintro b g16 ⟨rfl, x16⟩
      rw [ifB_false]
      have z10 := x10.size
      have z11 := x11.size
      have z12 := x12.size
      have z13 := x13.size
      have z14 := x14.size
      have hxb := fun i (hi : blkOf Ax i) => lx.2.base_le hi
      have hxl := fun i (hi : blkOf Ax i) => lx.2.lt hi
      have hvb := fun i (hi : blkOf Av i) => lv.2.base_le hi
      have hvl := fun i (hi : blkOf Av i) => lv.2.lt hi
      refine bump2 (lx.ext (x11.trans (x12.trans (x13.trans (x14.trans (x15.trans x16)))))) (lv.ext (x14.trans (x15.trans x16))) (fun i hi hv => by have := hxl i hi; have := hvb i hv; omega) (by omega) fun g17 m17 => ?_
      have wv17 : Ws g17 g14.size C u e' ws U' := by
        have u16 := wv.uns.ext x16
        refine ⟨u16.mod m17 (fun i hi e => ?_), fun v hv => ((wv.wts v hv).ext x16).mod m17 (fun i hi e => ?_), wv.eq, wv.dj⟩
        · have := wv.uns.2.base_le hi
          rcases e with e | e
          · have := hxl i e; omega
          · have := hvl i e; omega
        · have := (wv.wts v hv).2.base_le hi
          rcases e with e | e
          · have := hxl i e; omega
          · have := hvl i e; omega
      have hul : ws.length = u := wv.uns.1
      have hUl : U'.length = u := by rw [wv.eq, List.length_map]; exact hul
      refine bumpW wv17 (by omega) (fun v hv => ?_) fun g18 m18 => ?_
      · have h1 := (wv.wts v hv).1
        have h2 : (v.At, v.bs) ∈ U' := by rw [wv.eq]; exact List.mem_map.2 ⟨v, hv, rfl⟩
        have h3 := fd.inb _ h2
        have h4 := fd.small
        dsimp only at h3
        omega
      have xf := xe.trans x16
      have e17 : Ext gt g17 := xf.then m17 (fun i hi => by
        rcases hi with e | e
        · exact hxb i e
        · have := hvb i e; omega)
      have e18 : Ext gt g18 := e17.then m18 (fun i hi => by omega)
      refine ⟨⟨rfl, t + 1, wrap64_id (by omega) (by omega), by omega, st.grow e18⟩, ?_⟩
      rw [wrap64_id (by omega) (by omega)]
      dsimp only
      omega
  · have c14' : At gg b14 0 [sv (zeros z), .slice none 0 0] := s.k14.at_
    refine c14'.loadN rfl ?_
    refine c41 s.fst (RD.nil gg (zeros_isB z) (by omega)) rfl (by simp) _ fun g6 x6 => asB_of ?_
    rw [ifB_true]
    refine c17 (s.dk.ext x6) (by omega) _ fun p F2 g7 x7 k7 => asP_of ?_
    refine c19 (s.dk.ext (x6.trans x7)) k7 (by omega) _ fun g8 x8 => asB_of ?_
    rw [decide_eq_true ⟨rfl, rfl⟩, ifB_true]
    exact c8 _ _ fun h' e => asB_of (hk h' (s.ext.trans (x6.trans (x7.trans (x8.trans e)))))
end Go.Proofs.Ytfeodnhklibegaa
