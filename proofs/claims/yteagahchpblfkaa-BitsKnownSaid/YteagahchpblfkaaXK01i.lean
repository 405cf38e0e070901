/- What is proved: contracts of functions that the law calls, and of the law itself, over any heap. Conditions stand in each theorem. -/
import Derived.Test.YteagahchpblfkaaXK01h
set_option linter.unusedSimpArgs false
set_option linter.unusedVariables false
namespace Go.Proofs.Yteagahchpblfkaa
open Go.Oct Go.Oct.L01

/-- what a call's acts leave -/
def stepW (want : List Int) (a : Act) : List Int :=
  if a.Do % 4 = 0 then (if fitsB a.V a.Size = true then want ++ bytesOf a.V a.Size.toNat else want)
  else if a.Do % 4 = 1 then want ++ a.bs
  else if a.Do % 4 = 2 then (if fitsB a.V a.Size = true ∧ 0 ≤ a.At ∧ a.At ≤ want.length ∧ a.Size ≤ want.length - a.At then patch want a.At a.V a.Size else want)
  else want

/-- few -/
theorem c14 (A : Option Addr) (n c : Nat) (acts : List Act) (m : Int) (h : H) (k : Value → H → Prop) (hr : RowH h A (n * 5) (cellsOf Act.cells acts)) (hn : acts.length = n)
    (hno : k (.bool false) h) (hk : (∀ a ∈ acts.take 100, a.n ≤ 60) → k (.bool (decide ((n : Int) ≤ m))) h) : callK Try.prog 14 #[.slice A n c, .int .i64 m] h k := by
  refine call14 _ _ _ _ _ _ ?_
  unfold d14
  refine ⟨fun b x g => g = h ∧ ∃ j : Nat, x = j ∧ j ≤ n ∧ j ≤ 100 ∧ ∀ a ∈ acts.take j, a.n ≤ 60, fun b x g => (100 - x).toNat, ⟨rfl, 0, rfl, by omega, by omega, by simp⟩, ?_⟩
  rintro b x g ⟨rfl, j, rfl, hj, hj2, hall⟩
  refine ⟨fun b g' => g' = g ∧ b = decide (j < n ∧ j < 100), ?_, ?_⟩
  · refine ifB_dec (fun h1 => ⟨rfl, by simp only [decide_eq_decide]; omega⟩) (fun h1 => ⟨rfl, ?_⟩)
    rw [eq_comm, decide_eq_false_iff_not]; omega
  rintro b g' ⟨rfl, rfl⟩
  refine ifB_dec (fun h1 => ?_) (fun h1 => ?_)
  · have hx : acts[j]? = some acts[j] := List.getElem?_eq_getElem (by omega)
    refine rowL_index Act.len (by omega) hr rfl hx fun b q _ ha => addrK_of rfl (ha.load1 4 rfl rfl (asS_of ?_))
    refine ifB_dec (fun h2 => hno) (fun h2 => ?_)
    rw [wrap64_id (by omega) (by omega)]
    refine ⟨⟨rfl, j + 1, rfl, by omega, by omega, ?_⟩, by dsimp only; omega⟩
    rw [List.take_succ_eq_append_getElem (by omega)]
    intro a ha
    rcases List.mem_append.1 ha with ha | ha
    · exact hall a ha
    · rw [List.mem_singleton.1 ha]; omega
  · refine hk fun a ha => hall a ?_
    by_cases h2 : j = 100
    · subst h2; exact ha
    · have : j = n := by omega
      rw [List.take_of_length_le (by omega)] at ha ⊢
      exact ha

/-- BitsWrites -/
theorem c4 (A0 : Option Addr) (n0 q0 : Nat) (acts : List Act) (h : H) (k : Value → H → Prop) (hr : RowH h A0 (n0 * 5) (cellsOf Act.cells acts)) (hn : acts.length = n0) (hok : ∀ a ∈ acts, a.ok h)
    (hk : ∀ h', Ext h h' → k (.bool true) h') : callK Try.prog 4 #[.slice A0 n0 q0] h k := by
  refine call4 _ _ _ _ _ ?_
  unfold d4
  refine c14 A0 n0 q0 acts 40 h _ hr hn (asB_of ?_) fun hfew => asB_of ?_
  · exact c9 _ _ fun h' e => asB_of (hk h' e)
  refine ifB_of (fun h1 => ?_) (fun h1 => ?_)
  · exact c9 _ _ fun h' e => asB_of (hk h' e)
  have h40 : n0 ≤ 40 := by simp at h1; omega
  rw [List.take_of_length_le (by omega)] at hfew
  refine alloc_new fun pw h1' lp bp e1 => ?_
  refine ⟨fun b B m c x g => ∃ (j : Nat) (A : Option Addr) (c' : Nat) (want : List Int), x = j ∧ j ≤ n0 ∧ Ext h g ∧ Wr g h.size pw A m c' want ∧ Byt g h.size B m c want ∧ (∀ i, wfoot pw A i → ¬ blkOf B i) ∧ m ≤ 100 * j ∧ ∀ x ∈ want, isB x, fun b B m c x g => (n0 - x).toNat,
    ⟨0, none, 0, [], rfl, by omega, e1, ⟨bp, lp, Lst.nil⟩, Lst.nil, (by rintro i _ ⟨_, e, _⟩; cases e), by omega, by simp⟩, ?_⟩
  rintro b2 B m c x g ⟨j, A, c', want, rfl, hj, e, w, l, dis, hm, hwb⟩
  refine ifB_dec (fun hlt => ?_) (fun hge => ?_)
  rotate_left
  · exact c9 _ _ fun h' e' => asB_of (hk h' (e.trans e'))
  have hwl : want.length = m := l.1
  have hx : acts[j]? = some acts[j] := List.getElem?_eq_getElem (by omega)
  have hmem := List.getElem_mem (show j < acts.length by omega)
  have oka := hok _ hmem
  have fewa := hfew _ hmem
  generalize acts[j] = a at *
  refine rowL_index Act.len (by omega) (hr.ext e) rfl hx fun b q _ ha => ha.loadN rfl ?_
  refine alloc_new fun p6 g1 l6 b6 e6 => store_blk b6 rfl (by simp [Act.cells]) (by simp [OneCells, Act.cells, Value.oneCell']) fun g2 b6' m2 => ?_
  have x2 : Ext g g2 := e6.then m2 (fun i hi => by subst hi; exact l6)
  have a6 : At g2 p6 0 a.cells := by
    have := b6'.at_
    simpa [over, Act.cells] using this
  refine addrK_of rfl (a6.load1 2 rfl rfl (asI_of ?_))
  refine addrK_of rfl (a6.load1 3 rfl rfl (asI_of ?_))
  refine c15 _ _ _ _ (asB_of ?_)
  have w2 := w.ext x2
  have l2 := l.ext x2
  have e2 := e.trans x2
  have y6 : g.size ≤ p6 := l6
  have hbase : h.size ≤ g.size := e.size
  refine ⟨fun x36 b37 b2 B m c g' => ∃ (A : Option Addr) (c' : Nat) (want : List Int), Ext h g' ∧ Wr g' h.size pw A m c' want ∧ Byt g' h.size B m c want ∧ (∀ i, wfoot pw A i → ¬ blkOf B i) ∧ m ≤ 100 * (j + 1) ∧ ∀ x ∈ want, isB x, ?_, ?_⟩
  · refine addrK_of rfl (a6.load1 0 rfl rfl (asI_of ?_))
    refine c16 _ _ _ _ (by omega) (asI_of ?_)
    rw [if_neg (by omega)]
    generalize a.Do % 4 = d
    refine ifB_eq (fun hd => ?_) (fun hd => ?_)
    · -- Put
      refine addrK_of rfl (a6.load1 2 rfl rfl (asI_of ?_))
      refine addrK_of rfl (a6.load1 3 rfl rfl (asI_of ?_))
      refine c17 h.size pw A m c' want a.V a.Size g2 _ w2 oka.v0 oka.v1 (by omega) (fun hf => asI_of ?_) (fun hf A' c3 g3 w3 m3 d3 => asI_of ?_)
      · rw [hf]
        refine ⟨fun b g' => b = false ∧ g' = g2, ⟨rfl, rfl⟩, ?_⟩
        rintro b g' ⟨rfl, rfl⟩
        exact ⟨A, c', want, e2, w2, l2, dis, by omega, hwb⟩
      · rw [hf]
        have hr8 : 1 ≤ a.Size ∧ a.Size ≤ 8 := by unfold fitsB at hf; simp at hf; omega
        refine ⟨fun b g' => b = false ∧ g' = g3, ⟨rfl, rfl⟩, ?_⟩
        rintro b g' ⟨rfl, rfl⟩
        have a63 := a6.mod m3 (fun hi => by have := w.lt hi; omega)
        have e3 := e2.then m3 (fun i hi => w2.base hi)
        have l3 := l2.mod m3 (fun i hi hw => dis i hw hi)
        rw [ifB_false, ifB_true]
        refine addrK_of rfl (a63.load1 2 rfl rfl (asI_of ?_))
        refine addrK_of rfl (a63.load1 3 rfl rfl (asI_of ?_))
        have es : a.Size = (a.Size.toNat : Int) := by omega
        rw [es]
        simp only [Int.toNat_natCast]
        refine c19 a.Size.toNat a.V g' _ (by omega) oka.v0 oka.v1 fun D q4 g4 x4 l4 => asS_of ?_
        refine c18 B m c want D a.Size.toNat q4 _ g4 _ (l3.ext x4).row l4.row (by omega) fun D5 q5 g5 x5 l5 => asS_of ?_
        refine ⟨A', c3, _, e3.trans (x4.trans x5), w3.ext (x4.trans x5), Lst.weaken l5 (e3.trans x4).size, ?_, by omega, ?_⟩
        · intro i hi hD
          have h1 := w3.lt hi
          have h2 := l5.2.base_le hD
          have h3 := x4.size
          omega
        · intro x hx
          rcases List.mem_append.1 hx with hx | hx
          · exact hwb x hx
          · exact bytesOf_isB _ _ x hx
    refine ifB_eq (fun hd => ?_) (fun hd => ?_)
    · -- Raw
      refine addrK_of rfl (a6.load1 4 rfl rfl (asS_of ?_))
      have orow := oka.row
      have hbl : a.bs.length = a.n := by simpa using orow.1
      refine c18 none 0 0 [] a.A a.n a.c a.bs g2 _ RowH.nil (orow.ext e2) (by omega) fun D q3 g3 x3 l3 => asS_of ?_
      rw [Nat.zero_add, List.nil_append] at *
      have w3 := w2.ext x3
      refine c20 h.size pw A m c' want D a.n q3 a.bs g3 _ w3 l3.row (by omega) fun A' c4 g4 w4 m4 d4 => asI_of ?_
      refine ifB_ne (fun hn => absurd rfl hn) (fun _ => ?_)
      have l4 := l3.mod m4 (fun i hi hw => by have h1 := l3.2.base_le hi; have h2 := w2.lt hw; omega)
      refine bump l4 (by omega) fun g5 m5 => ?_
      have e3 := e2.trans x3
      have e4 := e3.then m4 (fun i hi => w3.base hi)
      have e5 := e4.then m5 (fun i hi => by have h1 := l4.2.base_le hi; have h2 := e2.size; omega)
      have w5 := w4.mod m5 (fun i hi hD => by
        have h1 := l4.2.base_le hD
        rcases d4 i hi with h2 | h2
        · have := w2.lt h2; omega
        · have := l3.2.lt hD; omega)
      have a65 := ((a6.ext x3).mod m4 (fun hi => by have := w.lt hi; omega)).mod m5 (fun hD => by have h1 := l4.2.base_le hD; have h2 := b6'.lt; omega)
      have l5 := ((l2.ext x3).mod m4 (fun i hi hw => dis i hw hi)).mod m5 (fun i hi hD => by have h1 := l4.2.base_le hD; have h2 := l2.2.lt hi; omega)
      refine addrK_of rfl (a65.load1 4 rfl rfl (asS_of ?_))
      refine c18 B m c want a.A a.n a.c a.bs g5 _ l5.row (orow.ext e5) (by omega) fun D5 q5 g6 x6 l6 => asS_of ?_
      refine ⟨A', c4, _, e5.trans x6, w5.ext x6, Lst.weaken l6 e5.size, ?_, by omega, ?_⟩
      · intro i hi hD
        have h1 := w5.lt hi
        have h2 := l6.2.base_le hD
        omega
      · intro x hx
        rcases List.mem_append.1 hx with hx | hx
        · exact hwb x hx
        · exact oka.byt x hx
    refine ifB_eq (fun hd => ?_) (fun hd => ?_)
    · -- Set
      refine addrK_of rfl (a6.load1 1 rfl rfl (asI_of ?_))
      refine addrK_of rfl (a6.load1 2 rfl rfl (asI_of ?_))
      refine addrK_of rfl (a6.load1 3 rfl rfl (asI_of ?_))
      have hat1 := oka.at1
      have cond : ∀ (g' : H) (K : Bool → H → Prop), At g' p6 0 a.cells → K (decide (may m a.At a.V a.Size)) g' →
          ifB (fitsB a.V a.Size) (addrK (some ⟨p6, 0, none⟩) 1 (fun p99 => load1 p99 g' (fun v100 => asI .i64 v100 (fun x100 => ifB (decide (x100 ≥ 0)) (addrK (some ⟨p6, 0, none⟩) 1 (fun p104 => load1 p104 g' (fun v105 => asI .i64 v105 (fun x105 => ifB (decide (x105 ≤ (m : Int))) (addrK (some ⟨p6, 0, none⟩) 1 (fun p113 => load1 p113 g' (fun v114 => asI .i64 v114 (fun x114 => addrK (some ⟨p6, 0, none⟩) 3 (fun p116 => load1 p116 g' (fun v117 => asI .i64 v117 (fun x117 => K (decide ((IntKind.wrap .i64 ((m : Int) - x114)) ≥ x117)) g'))))))) (K false g'))))) (K false g'))))) (K false g') := by
        intro g' K aa hK
        refine ifB_of (fun hf => ?_) (fun hf => ?_)
        · refine addrK_of rfl (aa.load1 1 rfl rfl (asI_of ?_))
          refine ifB_dec (fun h1 => ?_) (fun h1 => ?_)
          · refine addrK_of rfl (aa.load1 1 rfl rfl (asI_of ?_))
            refine ifB_dec (fun h2 => ?_) (fun h2 => ?_)
            · refine addrK_of rfl (aa.load1 1 rfl rfl (asI_of ?_))
              refine addrK_of rfl (aa.load1 3 rfl rfl (asI_of ?_))
              rw [wrap64_id (by omega) (by omega)]
              have : decide (may m a.At a.V a.Size) = decide ((m : Int) - a.At ≥ a.Size) := by
                simp only [decide_eq_decide, may, hf, true_and]; omega
              rw [← this]
              exact hK
            · rw [decide_eq_false (by unfold may; omega)] at hK; exact hK
          · rw [decide_eq_false (by unfold may; omega)] at hK; exact hK
        · rw [decide_eq_false (by unfold may; rw [hf]; simp)] at hK; exact hK
      refine c21 h.size pw A m c' want a.At a.V a.Size g2 _ w2 oka.v0 oka.v1 (by omega) (fun hmay => asI_of ?_) (fun hmay g3 w3 m3 => asI_of ?_)
      · refine ⟨fun b g' => b = false ∧ g' = g2, cond g2 (fun b g' => b = false ∧ g' = g2) a6 ⟨decide_eq_false hmay, rfl⟩, ?_⟩
        rintro b g' ⟨rfl, rfl⟩
        refine ⟨fun b g'' => b = false ∧ g'' = g', ⟨rfl, rfl⟩, ?_⟩
        rintro b g'' ⟨rfl, rfl⟩
        exact ⟨A, c', want, e2, w2, l2, dis, by omega, hwb⟩
      · have a63 := a6.mod m3 (fun hi => by have := w.lt hi; omega)
        have e3 := e2.then m3 (fun i hi => w2.base hi)
        have l3 := l2.mod m3 (fun i hi hw => dis i hw hi)
        refine ⟨fun b g' => b = true ∧ g' = g3, cond g3 (fun b g' => b = true ∧ g' = g3) a63 ⟨decide_eq_true hmay, rfl⟩, ?_⟩
        rintro b g' ⟨rfl, rfl⟩
        refine ⟨fun b g'' => b = false ∧ g'' = g', ⟨rfl, rfl⟩, ?_⟩
        rintro b g'' ⟨rfl, rfl⟩
        rw [ifB_false, ifB_true]
        obtain ⟨hf, hm0, hm1, hm2⟩ := hmay
        have hr8 : 1 ≤ a.Size ∧ a.Size ≤ 8 := by unfold fitsB at hf; simp at hf; omega
        have w3' := w3
        have pb := patch_isB hwb a.At a.V a.Size
        unfold patch at w3' pb
        obtain ⟨Do, At', V, Size, aA, an, ac, abs⟩ := a
        simp only at *
        obtain ⟨s, rfl⟩ := Int.eq_ofNat_of_zero_le (show 0 ≤ Size by omega)
        obtain ⟨p, rfl⟩ := Int.eq_ofNat_of_zero_le hm0
        simp only [Int.toNat_natCast] at w3' pb
        refine draw_ext (addrK_of rfl (a63.loadS1 1 rfl rfl (asI_of ?_)))
        have hle := l3.2.le
        rw [needK_true (by simp)]
        refine row_slice l3.row hle (l := 0) (u := p) rfl rfl (by omega) (by omega) fun B4 q4 r4 _ _ _ => ?_
        refine addrK_of rfl (a63.loadS1 2 rfl rfl (asI_of ?_))
        refine addrK_of rfl (a63.loadS1 3 rfl rfl (asI_of ?_))
        refine addrK_of rfl (a63.loadS1 1 rfl rfl (asI_of ?_))
        refine addrK_of rfl (a63.loadS1 3 rfl rfl (asI_of ?_))
        rw [needK_true (by simp)]
        dsimp only
        rw [wrap64_id (x := (p : Int) + s) (by omega) (by omega)]
        refine row_slice l3.row hle (l := p + s) (u := m) (by simp) rfl (by omega) (by omega) fun B5 q5 r5 _ _ _ => ?_
        rw [List.take_of_length_le (by rw [List.length_drop]; omega)] at r5
        rw [List.drop_zero, Nat.sub_zero] at r4
        rw [Nat.sub_zero]
        refine c19 s V g'' _ (by omega) oka.v0 oka.v1 fun D q6 g6 x6 l6 => asS_of ⟨x6, ?_⟩
        refine c18 B4 p q4 _ D s q6 _ g6 _ (r4.ext x6) l6.row (by omega) fun D7 q7 g7 x7 l7 => asS_of ⟨x6.trans x7, ?_⟩
        refine c18 D7 (p + s) q7 _ B5 (m - (p + s)) q5 _ g7 _ l7.row (r5.ext (x6.trans x7)) (by omega) fun D8 q8 g8 x8 l8 => asS_of ?_
        have hlen : p + s + (m - (p + s)) = m := by omega
        rw [hlen] at l8 ⊢
        have x68 := x6.trans (x7.trans x8)
        refine ⟨A, c', _, e3.trans x68, w3'.ext x68, Lst.weaken l8 (e3.trans (x6.trans x7)).size, ?_, by omega, pb⟩
        intro i hi hD
        have h1 := w3.lt hi
        have h2 := l8.2.base_le hD
        have h3 := (x6.trans x7).size
        omega
    · exact ⟨A, c', want, e2, w2, l2, dis, by omega, hwb⟩
  · rintro x36 b37 b2 B m c g3 ⟨A, c', want, e3, w3, l3, dis, hm, hwb⟩
    have hwl : want.length = m := l3.1
    refine c22 h.size pw A m c' want g3 _ w3 (by omega) fun D q4 g4 x4 l4 => asS_of ?_
    refine ⟨fun b g' => b = false ∧ g' = g4, ?_, ?_⟩
    · refine c23 _ _ _ want _ _ _ want _ _ l4.row (l3.ext x4).row hwb hwb (asB_of ?_)
      rw [decide_eq_true rfl]
      refine (show ifB false _ _ from c24 h.size pw A m c' want g4 _ (w3.ext x4) (asI_of ⟨by simp, rfl⟩))
    rintro b g' ⟨rfl, rfl⟩
    refine bump l4 (by omega) fun g5 m5 => ?_
    have e5 : Ext g3 g5 := x4.then m5 (fun i hi => l4.2.base_le hi)
    refine ⟨⟨j + 1, A, c', want, wrap64_id (by omega) (by omega), by omega, e3.trans e5, w3.ext e5, l3.ext e5, dis, by omega, hwb⟩, ?_⟩
    rw [wrap64_id (by omega) (by omega)]
    dsimp only
    omega
end Go.Proofs.Yteagahchpblfkaa
