/- What is proved: contracts of functions that the law calls, and of the law itself, over any heap. Conditions stand in each theorem. -/
import Derived.Test.YtoifdnmbhdjhhaaXOctL
import Derived.Test.YtoifdnmbhdjhhaaXK29a
import Derived.Test.YtoifdnmbhdjhhaaXL29
set_option linter.unusedSimpArgs false
set_option linter.unusedVariables false
namespace Go.Proofs.Ytoifdnmbhdjhhaa
open Go.Oct Go.Oct.L29

theorem verdict_one {y : Ent} {m n : Int} : verdict y.E y.N y.P m n = 1 ↔ Fresh y m n := by
  unfold verdict Fresh Cov vold veq vnew
  simp only [Bool.or_eq_true, Bool.and_eq_true, decide_eq_true_eq]
  split
  · simp; omega
  · split
    · simp; omega
    · split
      · simp; omega
      · simp; omega
theorem verdict_two {y : Ent} {m n : Int} : verdict y.E y.N y.P m n = 2 ↔ Cov y m n := by
  unfold verdict Cov vold veq vnew
  simp only [Bool.or_eq_true, Bool.and_eq_true, decide_eq_true_eq]
  split
  · simp; omega
  · split
    · simp; omega
    · split
      · simp; omega
      · simp; omega

def fe (y : Ent) : List Value := [.int .u32 y.E, .int .u64 y.N, .int .u32 y.P, .slice none 0 0]
theorem fe_len (y : Ent) : (fe y).length = 4 := rfl
theorem fe_one (y : Ent) : OneCells (fe y) := by simp [OneCells, fe, Value.oneCell']
theorem fe_fill (y : Ent) {k : Array Value → Prop} (hk : k (fe y).toArray) : fillK (fun i => some (i * 4, 4)) (List.toArray [.int .u32 0, .int .u64 0, .int .u32 0, .slice none 0 0]) [(0, (.agg (fe y).toArray))] k :=
  ⟨_, by simp [Instr.fill, Value.cells, fe, List.zipIdx], hk⟩
def fi (p : Nat) : Value := .int .i64 p
theorem fi_len (p : Nat) : [fi p].length = 1 := rfl

structure St (h0 g : H) (p8 : Nat) (A4 : Option Addr) (n4 q4 : Nat) (A6 : Option Addr) (n6 q6 : Nat) (A3 : Option Addr) (n3 q3 : Nat) (A5 : Option Addr) (n5 q5 : Nat) (ep : Int)
    (there : List Ent) (place : List Nat) (all : List Ent) (cred : List Nat) (m n : Int) (bound : Int) : Prop where
  ext : Ext h0 g
  l4 : Lst g h0.size 32 fe 4 A4 n4 q4 there
  l6 : Lst g h0.size 3 (fun p => [fi p]) 1 A6 n6 q6 place
  l3 : Lst g h0.size 32 fe 4 A3 n3 q3 all
  l5 : Lst g h0.size 3 (fun p => [fi p]) 1 A5 n5 q5 cred
  b8 : Blk g p8 #[.int .u32 m, .int .u64 n] 28
  y8 : h0.size ≤ p8
  d43 : ∀ i, blkOf A4 i → ¬ blkOf A3 i
  d65 : ∀ i, blkOf A6 i → ¬ blkOf A5 i
  inv : Inv ep there place all cred m n
  ble : ep ≤ bound + 1
  bal : (all.length : Int) ≤ bound
  bth : (there.length : Int) ≤ bound

variable {h0 g : H} {p8 : Nat} {A4 : Option Addr} {n4 q4 : Nat} {A6 : Option Addr} {n6 q6 : Nat} {A3 : Option Addr} {n3 q3 : Nat} {A5 : Option Addr} {n5 q5 : Nat} {ep : Int}
    {there : List Ent} {place : List Nat} {all : List Ent} {cred : List Nat} {m n : Int} {bd : Int}
theorem St.to (s : St h0 g p8 A4 n4 q4 A6 n6 q6 A3 n3 q3 A5 n5 q5 ep there place all cred m n bd) {g' : H} (e : Ext g g') : St h0 g' p8 A4 n4 q4 A6 n6 q6 A3 n3 q3 A5 n5 q5 ep there place all cred m n bd :=
  { s with ext := s.ext.trans e, l4 := s.l4.ext e, l6 := s.l6.ext e, l3 := s.l3.ext e, l5 := s.l5.ext e, b8 := s.b8.ext e }
theorem St.mark (s : St h0 g p8 A4 n4 q4 A6 n6 q6 A3 n3 q3 A5 n5 q5 ep there place all cred m n bd) : 0 ≤ m ∧ m ≤ bd + 1 ∧ 0 ≤ n ∧ n ≤ 101 := by
  have hb := s.ble
  have h1 := s.inv.ep1
  rcases s.inv.i0 with ⟨rfl, rfl⟩ | ⟨q, z, hz, rfl, rfl⟩
  · omega
  · have := s.inv.rng q z hz
    omega

theorem c3 (A0 : Option Addr) (N0 C0 : Nat) (xs : List Int) (h : H) (k : Value → H → Prop) (hr : RowH h A0 N0 (xs.map (Value.int .i64)).toArray) (hk : ∀ h', Ext h h' → k (.bool true) h') :
    callK Try.prog 3 #[.slice A0 N0 C0] h k := by
  refine call3 _ _ _ _ _ ?_
  unfold d3
  refine ifB_dec (fun hlen => ?_) (fun hlen => ?_)
  · exact c5 _ _ fun h' e => asB_of (hk h' e)
  refine alloc_new fun p8 h1 y8 b8 e1 => ?_
  refine ⟨fun A4 n4 q4 A6 n6 q6 A3 n3 q3 A5 n5 q5 x7 b2 x9 g => 0 ≤ x9 ∧ x9 ≤ N0 + 1 ∧ ∃ there place all cred m n, St h g p8 A4 n4 q4 A6 n6 q6 A3 n3 q3 A5 n5 q5 x7 there place all cred m n x9, fun A4 n4 q4 A6 n6 q6 A3 n3 q3 A5 n5 q5 x7 b2 x9 g => (N0 + 1 - x9).toNat, ?_, ?_⟩
  · refine ⟨by omega, by omega, [], [], [], [], 0, 0, ⟨e1, .nil, .nil, .nil, .nil, b8, y8, ?_, ?_, inv_nil, by omega, by simp, by simp⟩⟩
    · rintro i ⟨_, h, _⟩; cases h
    · rintro i ⟨_, h, _⟩; cases h
  rintro A4 n4 q4 A6 n6 q6 A3 n3 q3 A5 n5 q5 x7 b2 x9 g ⟨h9, h9', there, place, all, cred, m, n, st⟩
  have hw1 : IntKind.wrap .i64 ((N0 : Int) + 1) = N0 + 1 := wrap64_id (by omega) (by omega)
  rw [hw1]
  refine ifB_dec (fun hlt => ?_) (fun hge => ?_)
  rotate_left
  · exact c5 _ _ fun h' e => asB_of (hk h' (st.ext.trans e))
  refine ⟨fun b x10 x11 g' => Ext g g', ?_, ?_⟩
  · refine ifB_dec (fun hlt => ?_) (fun hge => ?_)
    · have hnx : xs.length = N0 := by simpa using hr.1
      obtain ⟨j, rfl⟩ := Int.eq_ofNat_of_zero_le h9
      have hxj : xs[j]? = some xs[j] := List.getElem?_eq_getElem (by omega)
      refine row_load (hr.ext st.ext) rfl hxj (asI_of ?_)
      refine c6 _ _ _ _ (by omega) (asI_of ?_)
      refine row_load (hr.ext st.ext) rfl hxj (asI_of ?_)
      rw [needK_true (by omega)]
      exact c6 _ _ _ _ (by omega) (asI_of (Ext.refl _))
    · exact Ext.refl _
  rintro b33 x10 x11 g1 e1'
  have st := st.to e1'
  clear e1'
  refine ⟨fun b92 A4 n4 q4 A6 n6 q6 A3 n3 q3 A5 n5 q5 x7 b2 g' => ∃ there place all cred m n, St h g' p8 A4 n4 q4 A6 n6 q6 A3 n3 q3 A5 n5 q5 x7 there place all cred m n (x9 + 1), ?_, ?_⟩
  · refine ifB_dec (fun hd => ?_) (fun hd => ?_)
    · -- append
      have hbl := st.l4.1
      have hbt := st.bth
      have hba := st.bal
      have hep := st.ble
      have hep1 := st.inv.ep1
      refine alloc_new fun b12 h2 l12 hb12 e2 => store_blk hb12 rfl (by simp) (by simp [OneCells, Value.oneCell']) fun h3 hb12' m3 => ?_
      have e3 : Ext g1 h3 := e2.then m3 (fun i hi => by subst hi; exact l12)
      have st0 := st
      have st := st.to e3
      refine ⟨fun b g' => ∃ P : Int, Blk g' b12 (fe ⟨x7, there.length, P⟩).toArray 32 ∧ Ext g1 g' ∧ (there = [] → P = 0) ∧ (∀ w, there[there.length - 1]? = some w → there ≠ [] → P = w.E), ?_, ?_⟩
      · have hw2 : IntKind.wrap .u64 (n4 : Int) = there.length := by rw [IntKind.wrap_u64, hbl]; omega
        rw [hw2] at hb12'
        refine ifB_dec (fun hn => ?_) (fun hn => ?_)
        · have hw3 : IntKind.wrap .i64 ((n4 : Int) - 1) = (there.length - 1 : Nat) := by rw [wrap64_id (by omega) (by omega)]; omega
          have hx : there[there.length - 1]? = some there[there.length - 1] := List.getElem?_eq_getElem (by omega)
          refine st.l4.index fe_len hw3 hx fun b _ ha => addrK_of rfl (ha.load1 0 rfl rfl (asI_of (addrK_of rfl ?_)))
          refine store_blk hb12' rfl (by rw [over_size]; simp) (by simp [OneCells, Value.cells, Value.oneCell']) fun h4 hb4 m4 => ?_
          refine ⟨there[there.length - 1].E, ?_, e3.then m4 (fun i hi => by subst hi; exact l12), ?_, ?_⟩
          · simpa [over, Value.cells, fe] using hb4
          · intro e; rw [e] at hbl; simp at hbl; omega
          · intro w hw _
            rw [hx] at hw
            cases hw
            rfl
        · have h0 : there = [] := List.length_eq_zero_iff.1 (by omega)
          refine ⟨0, by simpa [over, fe] using hb12', e3, fun _ => rfl, fun w _ hne => absurd h0 hne⟩
      · rintro b102 h4 ⟨P, hb, e4, hP0, hP⟩
        have st := st0.to e4
        refine hb.at_.loadN rfl (fe_fill _ ?_)
        refine alloc_new fun p113 h5 l5 hb5 e5 => src_blk hb5 rfl ?_
        have st := st.to e5
        have hb := hb.ext e5
        refine st.l4.push fe_len _ rfl (fe_one _) (by omega) (by have := st.ext.size; omega) (by omega) fun A4' q4' h6 l4 m6 d6 => ?_
        have hbl3 := st.l3.1
        have hbl5 := st.l5.1
        have hbl6 := st.l6.1
        have hlc := st.inv.lc
        have hlp := st.inv.lp
        have x6 : Ext h h6 := st.ext.then m6 (fun i hi => st.l4.2.base_le hi)
        have l3 := st.l3.mod m6 (fun i hi hi' => st.d43 i hi' hi)
        have l6 := st.l6.mod m6 (st.l6.2.disj st.l4.2 (by decide))
        have l5 := st.l5.mod m6 (st.l5.2.disj st.l4.2 (by decide))
        have b8 := st.b8.mod m6 (fun hi => st.l4.2.ne_blk st.b8 (by decide) _ hi rfl)
        have hb := hb.mod m6 (fun hi => by have := st0.l4.2.lt hi; omega)
        refine alloc_new fun p118 h7 _ hb7 e7 => src_blk hb7 rfl ?_
        have x7' := x6.trans e7
        refine Lst.push (f := fun p => [fi p]) (fun _ => rfl) (l6.ext e7) n3 rfl (by simp [OneCells, fi, Value.oneCell']) (by omega) x7'.size (by omega) fun A6' q6' h8 l6' m8 d8 => ?_
        have x8 : Ext h h8 := x7'.then m8 (fun i hi => l6.2.base_le hi)
        have l4 := (l4.ext e7).mod m8 ((l4.ext e7).2.disj (l6.ext e7).2 (by decide))
        have l3 := (l3.ext e7).mod m8 ((l3.ext e7).2.disj (l6.ext e7).2 (by decide))
        have l5 := (l5.ext e7).mod m8 (fun i hi hi' => st.d65 i hi' hi)
        have b8 := (b8.ext e7).mod m8 (fun hi => (l6.ext e7).2.ne_blk (b8.ext e7) (by decide) _ hi rfl)
        have hb := (hb.ext e7).mod m8 (fun hi => (l6.ext e7).2.ne_blk (hb.ext e7) (by decide) _ hi rfl)
        refine hb.at_.loadN rfl (fe_fill _ ?_)
        refine alloc_new fun p122 h9 _ hb9 e9 => src_blk hb9 rfl ?_
        have x9' := x8.trans e9
        refine Lst.push fe_len (l3.ext e9) _ rfl (fe_one _) (by omega) x9'.size (by omega) fun A3' q3' h10 l3' m10 d10 => ?_
        have x10' : Ext h h10 := x9'.then m10 (fun i hi => l3.2.base_le hi)
        have l6' := (l6'.ext e9).mod m10 ((l6'.ext e9).2.disj (l3.ext e9).2 (by decide))
        have l5 := (l5.ext e9).mod m10 ((l5.ext e9).2.disj (l3.ext e9).2 (by decide))
        have b8 := (b8.ext e9).mod m10 (fun hi => (l3.ext e9).2.ne_blk (b8.ext e9) (by decide) _ hi rfl)
        have d43 : ∀ i, blkOf A4' i → ¬ blkOf A3' i := by
          intro i hi hi'
          have h1 := l4.2.lt hi
          have h2 := e9.size
          rcases d10 i hi' with h3 | h3
          · have h4 := st0.l3.2.lt h3
            have h5 := st0.l3.2.lt h3
            rcases d6 i hi with h6 | h6
            · exact st0.d43 i h6 h3
            · have := e4.size; have := e5.size; omega
          · omega
        have l4 := (l4.ext e9).mod m10 (fun i hi hi' => by
          have h4 := st0.l3.2.lt hi'
          rcases d6 i hi with h6 | h6
          · exact st0.d43 i h6 hi'
          · have := e4.size; have := e5.size; omega)
        refine alloc_new fun p125 h11 _ hb11 e11 => src_blk hb11 rfl ?_
        have x11' := x10'.trans e11
        refine Lst.push (f := fun p => [fi p]) (x := 0) (fun _ => rfl) (l5.ext e11) rfl (by simp [OneCells, fi, Value.oneCell']) (by omega) x11'.size (by omega) fun A5' q5' h12 l5' m12 d12 => ?_
        have x12 : Ext h h12 := x11'.then m12 (fun i hi => l5.2.base_le hi)
        have l4 := (l4.ext e11).mod m12 ((l4.ext e11).2.disj (l5.ext e11).2 (by decide))
        have l3 := (l3'.ext e11).mod m12 ((l3'.ext e11).2.disj (l5.ext e11).2 (by decide))
        have b8 := (b8.ext e11).mod m12 (fun hi => (l5.ext e11).2.ne_blk (b8.ext e11) (by decide) _ hi rfl)
        have d65 : ∀ i, blkOf A6' i → ¬ blkOf A5' i := by
          intro i hi hi'
          have h1 := l6'.2.lt hi
          have h2 := e11.size
          rcases d12 i hi' with h3 | h3
          · have h4 := st0.l5.2.lt h3
            rcases d8 i hi with h6 | h6
            · exact st0.d65 i h6 h3
            · have := e4.size; have := e5.size; have := m6.size; have := e7.size; omega
          · omega
        have l6 := (l6'.ext e11).mod m12 (fun i hi hi' => by
          have h4 := st0.l5.2.lt hi'
          rcases d8 i hi with h6 | h6
          · exact st0.d65 i h6 hi'
          · have := e4.size; have := e5.size; have := m6.size; have := e7.size; omega)
        have hap := st.inv.append ⟨x7, there.length, P⟩ rfl rfl (by omega) hP0 hP
        rw [hbl3] at hap
        exact ⟨_, _, _, _, _, _, ⟨x12, l4, l6, l3, l5', b8, st.y8, d43, d65, hap, by omega, by simp; omega, by simp; omega⟩⟩
    simp only [beq_dec]
    refine ifB_dec (fun hd => ?_) (fun hd => ?_)
    · -- crash
      have hbl := st.l4.1
      have hbl6 := st.l6.1
      have hlp := st.inv.lp
      have hbt := st.bth
      have hba := st.bal
      have hep := st.ble
      have hep1 := st.inv.ep1
      have hw2 : IntKind.wrap .i64 ((n4 : Int) + 1) = n4 + 1 := wrap64_id (by omega) (by omega)
      rw [hw2]
      refine c6 _ _ _ _ (by omega) (asI_of ?_)
      rw [if_neg (by omega)]
      have ht0 : 0 ≤ x11 % ((n4 : Int) + 1) := Int.emod_nonneg _ (by omega)
      have ht1 : x11 % ((n4 : Int) + 1) < n4 + 1 := Int.emod_lt_of_pos _ (by omega)
      obtain ⟨t, ht⟩ := Int.eq_ofNat_of_zero_le ht0
      rw [ht] at ht1 ⊢
      rw [needK_true (by simp)]
      refine st.l4.take fe_len rfl (by omega) fun l4 => ?_
      rw [needK_true (by simp)]
      refine st.l6.take fi_len rfl (by omega) fun l6 => ?_
      have hw3 : IntKind.wrap .u32 (x7 + 1) = x7 + 1 := by rw [IntKind.wrap_u32]; omega
      rw [hw3]
      exact ⟨_, _, _, _, _, _, ⟨st.ext, l4, l6, st.l3, st.l5, st.b8, st.y8, st.d43, st.d65, st.inv.crash t, by omega, by omega, by simp; omega⟩⟩
    refine ifB_dec (fun hd => ?_) (fun hd => ?_)
    · -- one comes
      have hbl := st.l3.1
      have hbl5 := st.l5.1
      have hlc := st.inv.lc
      have hbt := st.bth
      have hba := st.bal
      have hep := st.ble
      have hep1 := st.inv.ep1
      have same : ∃ there place all cred m n, St h g1 p8 A4 n4 q4 A6 n6 q6 A3 n3 q3 A5 n5 q5 x7 there place all cred m n (x9 + 1) :=
        ⟨_, _, _, _, _, _, { st with ble := by omega, bal := by omega, bth := by omega }⟩
      refine ifB_dec (fun hn => ?_) (fun hn => same)
      refine c6 _ _ _ _ (by omega) (asI_of ?_)
      rw [if_neg (by omega)]
      have ht0 : 0 ≤ x11 % (n3 : Int) := Int.emod_nonneg _ (by omega)
      have ht1 : x11 % (n3 : Int) < n3 := Int.emod_lt_of_pos _ (by omega)
      obtain ⟨t, ht⟩ := Int.eq_ofNat_of_zero_le ht0
      rw [ht] at ht1 ⊢
      have hx : all[t]? = some all[t] := List.getElem?_eq_getElem (by omega)
      generalize all[t] = y at hx
      refine draw_ext (st.l3.index fe_len rfl hx fun b _ ha => ha.loadSN rfl (st.b8.at_.loadSN rfl ?_))
      refine c7 _ _ _ _ _ _ _ _ fun g2 e2 => asI_of ?_
      have st := st.to e2
      refine ifB_dec (fun hv => ?_) (fun hv => ⟨_, _, _, _, _, _, { st with ble := by omega, bal := by omega, bth := by omega }⟩)
      have hfr := verdict_one.1 hv
      obtain ⟨hc0, hinv⟩ := st.inv.credit hx hfr
      have hr := st.inv.rng t y hx
      have hmk := st.mark
      refine draw_ext (st.l3.index fe_len rfl hx fun b _ ha => addrK_of rfl (ha.loadS1 0 rfl rfl (asI_of ?_)))
      refine st.l3.index fe_len rfl hx fun b _ ha => addrK_of rfl (ha.loadS1 1 rfl rfl (asI_of ?_))
      have hw : IntKind.wrap .u64 (y.N + 1) = y.N + 1 := by rw [IntKind.wrap_u64]; omega
      rw [hw]
      refine store_blk st.b8 rfl (by simp) (by simp [OneCells, Value.oneCell']) fun g3 b8 m3 => ?_
      simp [over] at b8
      have x3 : Ext h g3 := st.ext.then m3 (fun i hi => by subst hi; exact st.y8)
      have l4 := st.l4.mod m3 (st.l4.2.ne_blk st.b8 (by decide))
      have l3 := st.l3.mod m3 (st.l3.2.ne_blk st.b8 (by decide))
      have l6 := st.l6.mod m3 (st.l6.2.ne_blk st.b8 (by decide))
      have l5 := st.l5.mod m3 (st.l5.2.ne_blk st.b8 (by decide))
      refine l5.index fi_len rfl hc0 fun b _ ha => ha.load1 0 rfl rfl (asI_of ?_)
      have hw1 : IntKind.wrap .i64 (((0 : Nat) : Int) + 1) = ((1 : Nat) : Int) := by decide
      rw [hw1]
      refine Lst.put (f := fi) l5 rfl (by omega) 1 rfl fun g4 l5' m4 => ?_
      refine ⟨_, _, _, _, _, _, ⟨x3.then m4 (fun i hi => l5.2.base_le hi), l4.mod m4 (l4.2.disj l5.2 (by decide)), l6.mod m4 st.d65, l3.mod m4 (l3.2.disj l5.2 (by decide)), l5', b8.mod m4 (fun hi => l5.2.ne_blk b8 (by decide) _ hi rfl), st.y8, st.d43, st.d65, hinv, by omega, by omega, by omega⟩⟩
    · -- all that are there come
      have hbl := st.l4.1
      have hbl6 := st.l6.1
      have hlp := st.inv.lp
      have hbt := st.bth
      have hba := st.bal
      have hep := st.ble
      have hep1 := st.inv.ep1
      have st : St h g1 p8 A4 n4 q4 A6 n6 q6 A3 n3 q3 A5 n5 q5 x7 there place all cred m n (x9 + 1) := { st with ble := by omega, bal := by omega, bth := by omega }
      refine ⟨fun b x g' => ∃ k : Nat, x = k ∧ k ≤ n4 ∧ ∃ cred m n, St h g' p8 A4 n4 q4 A6 n6 q6 A3 n3 q3 A5 n5 q5 x7 there place all cred m n (x9 + 1) ∧ ∀ (i : Nat) (w : Ent), i < k → there[i]? = some w → Cov w m n,
        fun b x g' => (n4 - x).toNat, ⟨0, rfl, by omega, _, _, _, st, fun i w hi => by omega⟩, ?_⟩
      clear st
      rintro bb x15 g2 ⟨j, rfl, hj, cred, m, n, st, hcov⟩
      refine ifB_dec (fun hlt => ?_) (fun hge => ⟨_, _, _, _, _, _, st⟩)
      have hx : there[j]? = some there[j] := List.getElem?_eq_getElem (by omega)
      generalize there[j] = y at hx
      obtain ⟨p, hp, hay⟩ := st.inv.pl j y hx
      refine ⟨fun b g' => ∃ cred m n, St h g' p8 A4 n4 q4 A6 n6 q6 A3 n3 q3 A5 n5 q5 x7 there place all cred m n (x9 + 1) ∧ ∀ (i : Nat) (w : Ent), i < j + 1 → there[i]? = some w → Cov w m n, ?_, ?_⟩
      · refine draw_ext (st.l4.index fe_len rfl hx fun b _ ha => ha.loadSN rfl (st.b8.at_.loadSN rfl ?_))
        refine c7 _ _ _ _ _ _ _ _ fun g2 e2 => asI_of ?_
        have st := st.to e2
        refine ifB_dec (fun hv => ?_) (fun hv => ?_)
        · have hfr := verdict_one.1 hv
          obtain ⟨hc0, hinv⟩ := st.inv.credit hay hfr
          have hr := st.inv.rng p y hay
          have hmk := st.mark
          have hbl5 := st.l5.1
          have hlc := st.inv.lc
          have hpl := (List.getElem?_eq_some_iff.1 hc0).1
          refine draw_ext (st.l4.index fe_len rfl hx fun b _ ha => addrK_of rfl (ha.loadS1 0 rfl rfl (asI_of ?_)))
          refine st.l4.index fe_len rfl hx fun b _ ha => addrK_of rfl (ha.loadS1 1 rfl rfl (asI_of ?_))
          have hw : IntKind.wrap .u64 (y.N + 1) = y.N + 1 := by rw [IntKind.wrap_u64]; omega
          rw [hw]
          refine store_blk st.b8 rfl (by simp) (by simp [OneCells, Value.oneCell']) fun g3 b8 m3 => ?_
          simp [over] at b8
          have x3 : Ext h g3 := st.ext.then m3 (fun i hi => by subst hi; exact st.y8)
          have l4 := st.l4.mod m3 (st.l4.2.ne_blk st.b8 (by decide))
          have l3 := st.l3.mod m3 (st.l3.2.ne_blk st.b8 (by decide))
          have l6 := st.l6.mod m3 (st.l6.2.ne_blk st.b8 (by decide))
          have l5 := st.l5.mod m3 (st.l5.2.ne_blk st.b8 (by decide))
          refine draw_ext (l6.index fi_len rfl hp fun b _ ha => ha.loadS1 0 rfl rfl (asI_of ?_))
          refine l6.index fi_len rfl hp fun b _ ha => ha.loadS1 0 rfl rfl (asI_of ?_)
          refine l5.index fi_len rfl hc0 fun b _ ha => ha.loadS1 0 rfl rfl (asI_of ?_)
          have hw1 : IntKind.wrap .i64 (((0 : Nat) : Int) + 1) = ((1 : Nat) : Int) := by decide
          rw [hw1]
          refine Lst.put (f := fi) l5 rfl (by omega) 1 rfl fun g4 l5' m4 => ?_
          refine ⟨_, _, _, ⟨x3.then m4 (fun i hi => l5.2.base_le hi), l4.mod m4 (l4.2.disj l5.2 (by decide)), l6.mod m4 st.d65, l3.mod m4 (l3.2.disj l5.2 (by decide)), l5', b8.mod m4 (fun hi => l5.2.ne_blk b8 (by decide) _ hi rfl), st.y8, st.d43, st.d65, hinv, by omega, by omega, by omega⟩, ?_⟩
          intro i w hi hw
          by_cases hij : i = j
          · subst hij
            rw [hx] at hw
            cases hw
            unfold Cov; omega
          · have h1 := hcov i w (by omega) hw
            have h2 := hfr.1
            unfold Cov at *
            omega
        · refine ⟨_, _, _, st, ?_⟩
          intro i w hi hw
          by_cases hij : i = j
          · subst hij
            rw [hx] at hw
            cases hw
            rcases st.inv.next hx hcov with h1 | h1
            · exact h1
            · exact absurd (verdict_one.2 h1) hv
          · exact hcov i w (by omega) hw
      · clear st hcov
        rintro b57 g3 ⟨cred, m, n, st, hcov⟩
        have hc1 := st.inv.i2 j p y hx hp (hcov j y (by omega) hx)
        refine st.l6.index fi_len rfl hp fun b _ ha => ha.load1 0 rfl rfl (asI_of ?_)
        refine st.l5.index fi_len rfl hc1 fun b _ ha => ha.load1 0 rfl rfl (asI_of ?_)
        refine ⟨⟨j + 1, wrap64_id (by omega) (by omega), by omega, _, _, _, st, hcov⟩, ?_⟩
        rw [wrap64_id (by omega) (by omega)]
        dsimp only
        omega
  · clear st
    rintro b92 A4 n4 q4 A6 n6 q6 A3 n3 q3 A5 n5 q5 x7 b2 g2 ⟨there, place, all, cred, m, n, st⟩
    have hbl := st.l4.1
    have hbl3 := st.l3.1
    have hbl5 := st.l5.1
    have hlc := st.inv.lc
    have hlp := st.inv.lp
    have hbt := st.bth
    have hba := st.bal
    refine ⟨fun b x g' => ∃ j : Nat, x = j ∧ j ≤ n3 ∧ Ext g2 g', fun b x g' => (n3 - x).toNat, ⟨0, rfl, by omega, Ext.refl _⟩, ?_⟩
    rintro bb x16 g3 ⟨j, rfl, hj, e3⟩
    have st := st.to e3
    refine ifB_dec (fun hlt => ?_) (fun hge => ?_)
    · have hc : cred[j]? = some cred[j] := List.getElem?_eq_getElem (by omega)
      have hle := st.inv.le hc
      refine st.l5.index fi_len rfl hc fun b _ ha => ha.load1 0 rfl rfl (asI_of ?_)
      refine ifB_dec (fun hlt => by omega) (fun hge => ?_)
      refine ⟨⟨j + 1, wrap64_id (by omega) (by omega), by omega, e3⟩, ?_⟩
      rw [wrap64_id (by omega) (by omega)]
      dsimp only
      omega
    refine ⟨fun b x g' => ∃ j : Nat, x = j ∧ j ≤ n4 ∧ Ext g3 g', fun b x g' => (n4 - x).toNat, ⟨0, rfl, by omega, Ext.refl _⟩, ?_⟩
    clear hge hj j
    rintro bb x16 g4 ⟨j, rfl, hj, e4⟩
    have st := st.to e4
    refine ifB_dec (fun hlt => ?_) (fun hge => ?_)
    · have hx : there[j]? = some there[j] := List.getElem?_eq_getElem (by omega)
      generalize there[j] = y at hx
      obtain ⟨p, hp, hay⟩ := st.inv.pl j y hx
      refine ⟨fun b g' => b = vold y.E y.N m n ∧ Ext g4 g', ?_, ?_⟩
      · refine draw_ext (st.l4.index fe_len rfl hx fun b _ ha => addrK_of rfl (ha.loadS1 0 rfl rfl (asI_of (addrK_of rfl (st.b8.at_.loadS1 0 rfl rfl (asI_of ?_))))))
        refine ifB_dec (fun h1 => ⟨by simp [vold, h1], Ext.refl _⟩) (fun h1 => ?_)
        refine st.l4.index fe_len rfl hx fun b _ ha => addrK_of rfl (ha.loadS1 0 rfl rfl (asI_of (addrK_of rfl (st.b8.at_.loadS1 0 rfl rfl (asI_of ?_)))))
        rw [beq_dec]
        refine ifB_dec (fun h2 => ?_) (fun h2 => ⟨by simp [vold, h1, h2], Ext.refl _⟩)
        refine st.l4.index fe_len rfl hx fun b _ ha => addrK_of rfl (ha.loadS1 1 rfl rfl (asI_of (addrK_of rfl (st.b8.at_.loadS1 1 rfl rfl (asI_of ?_)))))
        exact ⟨by simp [vold, h1, h2], Ext.refl _⟩
      · rintro b18 g5 ⟨hb18, e5⟩
        have st := st.to e5
        have hv : (verdict y.E y.N y.P m n == 2) = b18 := by
          rw [hb18]
          unfold verdict
          split
          · rename_i h; rw [h]; rfl
          · rename_i h
            rw [Bool.not_eq_true] at h
            rw [h]
            split
            · rfl
            · split <;> rfl
        have last : ∀ (K : Bool → H → Prop), (∀ g', Ext g5 g' → K false g') → indexK 4 A4 n4 (j : Int) (fun p239 => loadSN 4 (fun g => Ext g5 g) p239 (fun c240 => loadSN 2 (fun g => Ext g5 g) (some ⟨p8, 0, none⟩) (fun c241 => callK Try.prog 7 #[(.agg c240), (.agg c241)] g5 (fun v242 h => asI .i64 v242 (fun x242 => K (!((x242 == 2) == b18)) h))))) := by
          intro K hK
          refine st.l4.index fe_len rfl hx fun b _ ha => ha.loadSN rfl (st.b8.at_.loadSN rfl ?_)
          refine c7 _ _ _ _ _ _ _ _ fun g2 e2 => asI_of ?_
          rw [hv]
          simpa using hK g2 e2
        refine ⟨fun b g' => b = false ∧ Ext g5 g', draw_ext (ifB_of (fun hb => ?_) (fun hb => last (fun b g' => b = false ∧ Ext g5 g') fun g' e => ⟨rfl, e⟩)), ?_⟩
        · have hcv : Cov y m n := by
            rw [hb] at hb18
            simp [vold] at hb18
            unfold Cov
            omega
          have hc1 := st.inv.i2 j p y hx hp hcv
          refine st.l6.index fi_len rfl hp fun b _ ha => ha.loadS1 0 rfl rfl (asI_of ?_)
          refine st.l5.index fi_len rfl hc1 fun b _ ha => ha.loadS1 0 rfl rfl (asI_of ?_)
          exact last (fun b g' => b = false ∧ Ext g5 g') fun g' e => ⟨rfl, e⟩
        · rintro b246 g6 ⟨rfl, e6⟩
          refine ⟨⟨j + 1, wrap64_id (by omega) (by omega), by omega, e4.trans (e5.trans e6)⟩, ?_⟩
          rw [wrap64_id (by omega) (by omega)]
          dsimp only
          omega
    · have hw9 : IntKind.wrap .i64 (x9 + 1) = x9 + 1 := wrap64_id (by omega) (by omega)
      rw [hw9]
      refine ⟨⟨by omega, by omega, _, _, _, _, _, _, st⟩, ?_⟩
      dsimp only
      omega
end Go.Proofs.Ytoifdnmbhdjhhaa
