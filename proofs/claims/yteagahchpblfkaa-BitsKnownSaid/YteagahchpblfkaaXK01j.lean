/- What is proved: contracts of functions that the law calls, and of the law itself, over any heap. Conditions stand in each theorem. -/
import Derived.Test.YteagahchpblfkaaXK01i
import Derived.Test.YteagahchpblfkaaXK01f
set_option linter.unusedSimpArgs false
set_option linter.unusedVariables false
namespace Go.Proofs.Yteagahchpblfkaa
open Go.Oct Go.Oct.L01

theorem act_one (a : Act) : OneCells a.cells := by simp [OneCells, Act.cells, Value.oneCell']
theorem act_fill (a : Act) {k : Array Value → Prop} (hk : k a.cells.toArray) : fillK (fun i => some (i * 5, 5)) (List.toArray [.int .i64 0, .int .i64 0, .int .u64 0, .int .i64 0, .slice none 0 0]) [(0, (.agg a.cells.toArray))] k :=
  ⟨_, by simp [Instr.fill, Value.cells, Act.cells, List.zipIdx], hk⟩
/-- an act whose bytes are a part of the row b -/
structure AI (h : H) (base : Nat) (xs : List Int) (a : Act) : Prop where
  at0 : -9223372036854775808 ≤ a.At
  at1 : a.At ≤ 9223372036854775807
  v0 : 0 ≤ a.V
  v1 : a.V < 18446744073709551616
  row : RowH h a.A a.n (a.bs.map bf).toArray
  nc : a.n ≤ a.c
  pre : a.bs = xs.take a.n
  le : a.n ≤ xs.length
  blk : a.A = none ∨ ∃ b cur, a.A = some ⟨b, 0, none⟩ ∧ base ≤ b ∧ Blk h b cur 5
theorem AI.ok {h : H} {base : Nat} {xs : List Int} {a : Act} (o : AI h base xs a) (hx : ∀ x ∈ xs, isB x) : a.ok h :=
  ⟨o.at0, o.at1, o.v0, o.v1, o.row, fun x hm => hx x (by rw [o.pre] at hm; exact List.mem_of_mem_take hm), o.nc⟩
theorem AI.ext {h h' : H} {base : Nat} {xs : List Int} {a : Act} (o : AI h base xs a) (x : Ext h h') : AI h' base xs a :=
  { o with row := o.row.ext x, blk := o.blk.imp id fun ⟨b, cur, h1, h2, h3⟩ => ⟨b, cur, h1, h2, h3.ext x⟩ }
/-- what is written lies in rows of other types -/
theorem AI.mod {h h' : H} {S : Nat → Prop} {base : Nat} {xs : List Int} {a : Act} (o : AI h base xs a) (x : Go.Oct.Mod h h' S) (hs : ∀ i cur, S i → ¬ Blk h i cur 5) : AI h' base xs a := by
  rcases o.blk with h1 | ⟨b, cur, h1, h2, h3⟩
  · exact { o with row := o.row.mod x (fun ad e => by rw [h1] at e; cases e), blk := .inl h1 }
  · exact { o with row := o.row.mod x (fun ad e hS => by rw [h1] at e; cases e; exact hs _ _ hS h3), blk := .inr ⟨b, cur, h1, h2, h3.mod x (fun hS => hs _ _ hS h3)⟩ }
/-- the row b itself grows -/
theorem AI.grow {h h' : H} {base : Nat} {xs : List Int} {A : Option Addr} {n c : Nat} {a : Act} (o : AI h base xs a) (l : Byt h base A n c xs) (x : Go.Oct.Mod h h' (blkOf A)) (r : RowH h' A n (xs.map bf).toArray) (t : ∀ i, blkOf A i → ∃ cur, Blk h' i cur 5) (y : Int) : AI h' base (xs ++ [y]) a := by
  have hp : a.bs = (xs ++ [y]).take a.n := by rw [List.take_append_of_le_length o.le]; exact o.pre
  have hl : a.n ≤ (xs ++ [y]).length := by have := o.le; simp; omega
  rcases o.blk with h1 | ⟨b, cur, h1, h2, h3⟩
  · exact { o with row := o.row.mod x (fun ad e => by rw [h1] at e; cases e), pre := hp, le := hl, blk := .inl h1 }
  · by_cases hb : blkOf A b
    · have hA : A = some ⟨b, 0, none⟩ := by
        rcases l.2.2 with ⟨e, _⟩ | ⟨b', _, e, _⟩
        · rw [e] at hb; obtain ⟨_, e, _⟩ := hb; cases e
        · rw [e] at hb; obtain ⟨_, e', hb⟩ := hb; cases e'; rw [e]; subst hb; rfl
      obtain ⟨cur', h4⟩ := t b hb
      have hnl : xs.length = n := l.1
      have h5 := r.part 0 a.n (by have := o.le; omega)
      refine { o with row := ?_, pre := hp, le := hl, blk := .inr ⟨b, cur', h1, h2, h4⟩ }
      rw [o.pre, h1]
      rw [hA] at h5
      simpa [List.extract_toArray, List.extract_eq_take_drop, add_mk, List.map_take] using h5
    · exact { o with row := o.row.mod x (fun ad e hS => by rw [h1] at e; cases e; exact hb hS), pre := hp, le := hl, blk := .inr ⟨b, cur, h1, h2, h3.mod x hb⟩ }

theorem u64_range (x : Int) : 0 ≤ IntKind.wrap .u64 x ∧ IntKind.wrap .u64 x < 18446744073709551616 := by rw [IntKind.wrap_u64]; omega
theorem i64_range (x : Int) : -9223372036854775808 ≤ IntKind.wrap .i64 x ∧ IntKind.wrap .i64 x ≤ 9223372036854775807 := by rw [IntKind.wrap_i64]; omega
theorem u8_range (x : Int) : isB (IntKind.wrap .u8 x) := by unfold isB; rw [IntKind.wrap_u8]; omega
theorem uf_len (x : Int) : [uf x].length = 1 := rfl
theorem gf_len (x : Int) : [gf x].length = 1 := rfl

/-- BitsKnown -/
theorem c8 (h : H) (k : Value → H → Prop) (hk : ∀ h', Ext h h' → k (.bool true) h') : callK Try.prog 8 #[] h k := by
  refine call8 _ _ ?_
  unfold d8
  refine ⟨fun A1 n1 q1 A2 n2 q2 A3 n3 q3 A4 n4 q4 b0 x5 g => ∃ (j : Nat) (xs ls ss : List Int) (acts : List Act), x5 = j ∧ j ≤ 36 ∧ Ext h g ∧ n1 = j ∧ n2 = j ∧ n3 = j ∧ n4 = j ∧ Byt g h.size A1 n1 q1 xs ∧ Lst g h.size 23 (fun x => [uf x]) 1 A2 n2 q2 ls ∧ Lst g h.size 3 (fun x => [gf x]) 1 A3 n3 q3 ss ∧ Lst g h.size 35 Act.cells 5 A4 n4 q4 acts ∧
      (∀ x ∈ xs, isB x) ∧ (∀ x ∈ ls, 0 ≤ x ∧ x < 18446744073709551616) ∧ (∀ x ∈ ss, -9223372036854775808 ≤ x) ∧ (∀ a ∈ acts, AI g h.size xs a),
    fun A1 n1 q1 A2 n2 q2 A3 n3 q3 A4 n4 q4 b0 x5 g => (36 - x5).toNat,
    ⟨0, [], [], [], [], rfl, by omega, Ext.refl _, rfl, rfl, rfl, rfl, Lst.nil, Lst.nil, Lst.nil, Lst.nil, by simp, by simp, by simp, by simp⟩, ?_⟩
  rintro A1 n1 q1 A2 n2 q2 A3 n3 q3 A4 n4 q4 b0 x5 g ⟨j, xs, ls, ss, acts, rfl, hj, eg, rfl, rfl, rfl, rfl, l1, l2, l3, l4, hxs, hls, hss, hai⟩
  refine ifB_dec (fun hlt => ?_) (fun hge => ?_)
  · have et : ∀ m : Int, Int.tmod (n4 : Int) m = n4 % m := fun m => Int.tmod_eq_emod_of_nonneg (by omega)
    rw [needK_true (by decide)]
    refine c30 _ (by rw [et]; omega) (by rw [et]; omega) _ _ (asI_of ?_)
    generalize (256 : Int) ^ (Int.tmod (n4 : Int) 9).toNat - 1 = pw
    rw [needK_true (by decide), needK_true (by decide)]
    generalize hv : IntKind.wrap .u64 (IntKind.wrap .u64 (pw + IntKind.wrap .u64 (Int.tmod (IntKind.wrap .i64 (Int.tdiv (n4 : Int) 9)) 3)) - 1) = v
    have hv2 := u64_range (IntKind.wrap .u64 (pw + IntKind.wrap .u64 (Int.tmod (IntKind.wrap .i64 (Int.tdiv (n4 : Int) 9)) 3)) - 1)
    rw [hv] at hv2
    generalize hy : IntKind.wrap .u8 (IntKind.wrap .i64 ((n4 : Int) * 37)) = y
    have hyB := u8_range (IntKind.wrap .i64 ((n4 : Int) * 37))
    rw [hy] at hyB
    have hn4 := l4.1
    refine alloc_new fun p24 g1 _ b24 x1 => src_blk b24 rfl ?_
    refine Lst.appends2 (f := bf) (l1.ext x1) [y] rfl rfl bf_one (by omega) (eg.trans x1).size (by omega) fun B1 r1 g2 k1 m1 _ o1 t1 => ?_
    have e2 := (eg.trans x1).then m1 (fun i hi => l1.2.base_le hi)
    have l2 := (l2.ext x1).mod m1 ((l2.ext x1).2.disj (l1.ext x1).2 (by decide))
    have l3 := (l3.ext x1).mod m1 ((l3.ext x1).2.disj (l1.ext x1).2 (by decide))
    have l4 := (l4.ext x1).mod m1 ((l4.ext x1).2.disj (l1.ext x1).2 (by decide))
    have hai : ∀ a ∈ acts, AI g2 h.size (xs ++ [y]) a := fun a ha => ((hai a ha).ext x1).grow (l1.ext x1) m1 o1 t1 y
    refine alloc_new fun p28 g3 _ b28 x3 => src_blk b28 rfl ?_
    refine Lst.push (f := fun x => [uf x]) uf_len (l2.ext x3) v rfl (by simp [OneCells, uf, Value.oneCell']) (by omega) (e2.trans x3).size (by omega) fun B2 r2 g4 k2 m2 _ => ?_
    have e4 := (e2.trans x3).then m2 (fun i hi => l2.2.base_le hi)
    have k1 := (k1.ext x3).mod m2 ((k1.ext x3).2.disj (l2.ext x3).2 (by decide))
    have l3 := (l3.ext x3).mod m2 ((l3.ext x3).2.disj (l2.ext x3).2 (by decide))
    have l4 := (l4.ext x3).mod m2 ((l4.ext x3).2.disj (l2.ext x3).2 (by decide))
    have hai : ∀ a ∈ acts, AI g4 h.size (xs ++ [y]) a := fun a ha => ((hai a ha).ext x3).mod m2 ((l2.ext x3).2.not_blk (by decide))
    rw [needK_true (by decide)]
    generalize hs : IntKind.wrap .i64 (Int.tmod (IntKind.wrap .i64 ((n4 : Int) * 5)) 11 - 1) = sz
    have hs2 := i64_range (Int.tmod (IntKind.wrap .i64 ((n4 : Int) * 5)) 11 - 1)
    rw [hs] at hs2
    refine alloc_new fun p35 g5 _ b35 x5 => src_blk b35 rfl ?_
    refine Lst.push (f := fun x => [gf x]) gf_len (l3.ext x5) sz rfl (by simp [OneCells, gf, Value.oneCell']) (by omega) (e4.trans x5).size (by omega) fun B3 r3 g6 k3 m3 _ => ?_
    have e6 := (e4.trans x5).then m3 (fun i hi => l3.2.base_le hi)
    have k1 := (k1.ext x5).mod m3 ((k1.ext x5).2.disj (l3.ext x5).2 (by decide))
    have k2 := (k2.ext x5).mod m3 ((k2.ext x5).2.disj (l3.ext x5).2 (by decide))
    have l4 := (l4.ext x5).mod m3 ((l4.ext x5).2.disj (l3.ext x5).2 (by decide))
    have hai : ∀ a ∈ acts, AI g6 h.size (xs ++ [y]) a := fun a ha => ((hai a ha).ext x5).mod m3 ((l3.ext x5).2.not_blk (by decide))
    rw [needK_true (by decide), needK_true (by decide), needK_true (by decide), needK_true (by decide), needK_true (by omega), needK_true (by simp)]
    have ht : ∃ t : Nat, Int.tmod (Int.tmod (n4 : Int) 7) ((n4 + 1 : Nat) : Int) = t ∧ t ≤ n4 := by
      rw [et, Int.tmod_eq_emod_of_nonneg (by omega)]
      have h1 := Int.emod_nonneg ((n4 : Int) % 7) (show ((n4 + 1 : Nat) : Int) ≠ 0 by omega)
      have h2 := Int.emod_lt_of_pos ((n4 : Int) % 7) (show 0 < ((n4 + 1 : Nat) : Int) by omega)
      exact ⟨_, (Int.toNat_of_nonneg h1).symm, by omega⟩
    obtain ⟨t, ht, htn⟩ := ht
    rw [ht]
    refine Lst.take (f := fun x => [bf x]) (sz := 1) bf_len k1 rfl (by omega) fun kt => ?_
    refine act_fill ⟨Int.tmod (n4 : Int) 4, IntKind.wrap .i64 (Int.tmod (IntKind.wrap .i64 ((n4 : Int) * 7)) 20 - 1), v, IntKind.wrap .i64 (Int.tmod (IntKind.wrap .i64 ((n4 : Int) * 3)) 10 - 1), B1, t, r1, (xs ++ [y]).take t⟩ ?_
    have hxl : xs.length = n4 := l1.1
    generalize ha : Act.mk _ _ _ _ _ _ _ _ = a
    have haA : a.A = B1 := by rw [← ha]
    have han : a.n = t := by rw [← ha]
    have hac : a.c = r1 := by rw [← ha]
    have hab : a.bs = (xs ++ [y]).take t := by rw [← ha]
    have haV : a.V = v := by rw [← ha]
    have haAt : a.At = IntKind.wrap .i64 (Int.tmod (IntKind.wrap .i64 ((n4 : Int) * 7)) 20 - 1) := by rw [← ha]
    have aI : AI g6 h.size (xs ++ [y]) a := by
      have h1 := i64_range (Int.tmod (IntKind.wrap .i64 ((n4 : Int) * 7)) 20 - 1)
      refine ⟨by rw [haAt]; exact h1.1, by rw [haAt]; exact h1.2, by rw [haV]; exact hv2.1, by rw [haV]; exact hv2.2, ?_, by rw [han, hac]; exact kt.2.le, by rw [hab, han], by rw [han]; simp; omega, ?_⟩
      · rw [haA, han, hab]; exact Lst.row (f := bf) kt
      · rw [haA]
        rcases kt.2.2 with ⟨h2, _⟩ | ⟨b, cur, h2, h3, h4, _⟩
        · exact .inl h2
        · exact .inr ⟨b, cur, h2, h3, h4⟩
    clear ha
    refine alloc_new fun p57 g7 _ b57 x7 => src_blk b57 rfl ?_
    refine Lst.push (f := Act.cells) Act.len (l4.ext x7) a rfl (act_one a) (by omega) (e6.trans x7).size (by omega) fun B4 r4 g8 k4 m4 _ => ?_
    have e8 := (e6.trans x7).then m4 (fun i hi => l4.2.base_le hi)
    have k1 := (k1.ext x7).mod m4 ((k1.ext x7).2.disj (l4.ext x7).2 (by decide))
    have k2 := (k2.ext x7).mod m4 ((k2.ext x7).2.disj (l4.ext x7).2 (by decide))
    have k3 := (k3.ext x7).mod m4 ((k3.ext x7).2.disj (l4.ext x7).2 (by decide))
    have hai : ∀ a ∈ acts, AI g8 h.size (xs ++ [y]) a := fun a ha => ((hai a ha).ext x7).mod m4 ((l4.ext x7).2.not_blk (by decide))
    have aI := (aI.ext x7).mod m4 ((l4.ext x7).2.not_blk (by decide))
    have hxs' : ∀ x ∈ xs ++ [y], isB x := by
      intro x hx
      rcases List.mem_append.1 hx with hx | hx
      · exact hxs x hx
      · rw [List.mem_singleton.1 hx]; exact hyB
    have hls' : ∀ x ∈ ls ++ [v], 0 ≤ x ∧ x < 18446744073709551616 := by
      intro x hx
      rcases List.mem_append.1 hx with hx | hx
      · exact hls x hx
      · rw [List.mem_singleton.1 hx]; exact hv2
    have hss' : ∀ x ∈ ss ++ [sz], -9223372036854775808 ≤ x := by
      intro x hx
      rcases List.mem_append.1 hx with hx | hx
      · exact hss x hx
      · rw [List.mem_singleton.1 hx]; exact hs2.1
    refine ⟨fun b g' => b = false ∧ Ext g8 g', ?_, ?_⟩
    · refine ⟨by decide, by decide, ?_⟩
      refine c3 B1 _ r1 (xs ++ [y]) _ _ v g8 _ (Lst.row (f := bf) k1) k1.2.le hxs' (i64_range _).2 hv2.1 hv2.2 fun g9 x9 => asB_of ?_
      refine (show ifB false _ _ from ?_)
      rw [ifB_false, needK_true (by decide)]
      refine c5 B2 _ r2 (ls ++ [v]) B3 _ r3 (ss ++ [sz]) _ v g9 _ (Lst.row (f := uf) (k2.ext x9)) (Lst.row (f := gf) (k3.ext x9)) hls' (i64_range _).2 hv2.1 hv2.2 fun g10 x10 => asB_of ?_
      refine (show ifB false _ _ from ?_)
      rw [ifB_false]
      have hxa : (acts ++ [a])[n4]? = some a := by rw [← hn4]; simp
      refine (k4.ext (x9.trans x10)).index Act.len rfl hxa fun b _ hat => hat.loadN rfl ?_
      exact c7 a g10 _ fun g11 x11 => asB_of ⟨rfl, x9.trans (x10.trans x11)⟩
    · rintro b g9 ⟨rfl, x9⟩
      refine ⟨⟨n4 + 1, xs ++ [y], ls ++ [v], ss ++ [sz], acts ++ [a], wrap64_id (by omega) (by omega), by omega, e8.trans x9, rfl, rfl, rfl, rfl, k1.ext x9, k2.ext x9, k3.ext x9, k4.ext x9, hxs', hls', hss', ?_⟩, ?_⟩
      · intro b hb
        rcases List.mem_append.1 hb with hb | hb
        · exact (hai b hb).ext x9
        · rw [List.mem_singleton.1 hb]; exact aI.ext x9
      · rw [wrap64_id (by omega) (by omega)]
        dsimp only
        omega
  · have h36 : n4 = 36 := by omega
    have hn4 := l4.1
    refine c4 A4 n4 q4 acts g _ l4.2.row hn4 (fun a ha => (hai a ha).ok hxs) fun g1 x1 => asB_of ?_
    rw [ifB_true]
    refine c6 A1 n4 q1 xs A3 n4 q3 ss g1 _ (Lst.row (f := bf) (l1.ext x1)) l1.2.le (Lst.row (f := gf) (l3.ext x1)) hxs hss fun g2 x2 => asB_of ?_
    rw [ifB_true]
    refine alloc_new fun p98 g3 _ b98 x3 => ?_
    have x13 := x1.trans (x2.trans x3)
    have r98 : RowH g3 (some ⟨p98, 0, none⟩) 13 (([-13, 2, -10, 8, -11, -400, 9, 0, 8, 8, 8, 1, -10] : List Int).map gf).toArray := b98.row 0 13 (by decide)
    refine c6 A1 n4 q1 xs _ 13 13 _ g3 _ (Lst.row (f := bf) (l1.ext x13)) l1.2.le r98 hxs (by decide) fun g4 x4 => asB_of ?_
    rw [ifB_true]
    refine c3 none 0 0 [] _ _ _ g4 _ RowH.nil (by omega) (by simp) (by omega) (by omega) (by omega) fun g5 x5 => asB_of ?_
    rw [ifB_true]
    refine alloc_new fun p105 g6 _ b105 x6 => alloc_new fun p106 g7 _ b106 x7 => ?_
    have r105 : RowH g7 (some ⟨p105, 0, none⟩) 1 (([9223372036854775808] : List Int).map uf).toArray := (b105.ext x7).row 0 1 (by decide)
    have r106 : RowH g7 (some ⟨p106, 0, none⟩) 1 (([8] : List Int).map gf).toArray := b106.row 0 1 (by decide)
    refine c5 _ 1 1 [9223372036854775808] _ 1 1 [8] _ 5 g7 _ r105 r106 (by simp) (by omega) (by omega) (by omega) fun g8 x8 => asB_of ?_
    rw [ifB_true]
    exact c9 _ _ fun g9 x9 => asB_of (hk g9 (eg.trans (x13.trans (x4.trans (x5.trans (x6.trans (x7.trans (x8.trans x9))))))))
end Go.Proofs.Yteagahchpblfkaa
