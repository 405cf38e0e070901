/- What is proved: contracts of functions that the law calls, and of the law itself, over any heap. Conditions stand in each theorem. -/
import Derived.Test.YtfeodnhklibegaaXK13r
set_option linter.unusedSimpArgs false
set_option linter.unusedVariables false
namespace Go.Proofs.Ytfeodnhklibegaa
open Go.Oct Go.Oct.L01
theorem wrap8_isB (x : Int) : isB (IntKind.wrap .u8 x) := by
  rw [IntKind.wrap_u8]; unfold isB; omega
theorem Act.ok.ext {a : Act} {h h' : H} (o : a.ok h) (x : Ext h h') : a.ok h' := { o with row := o.row.ext x, fro := o.fro.ext x }
/-- an act whose data, and fates, lie in rows of the call's own -/
structure AO (g : H) (A3 : Option Addr) (n3 : Nat) (a : Act) : Prop where
  row : RowH g a.A a.n (a.bs.map bf).toArray
  byt : ∀ x ∈ a.bs, isB x
  at1 : a.At ≤ 9223372036854775807
  tA : ∀ i, blkOf a.A i → ∃ cur, Blk g i cur 5
  fro : RowH g a.B (a.m * 2) (cellsOf fcells a.fs)
  fln : a.fs.length = a.m
  tB : ∀ i, blkOf a.B i → ∃ cur, Blk g i cur 44
  lay : 0 < a.m → ∀ ad, a.B = some ad → blkOf A3 ad.block → ad.spot = none ∧ ad.off + a.m * 2 ≤ n3 * 2
theorem AO.ok {g : H} {A3 : Option Addr} {n3 : Nat} {a : Act} (o : AO g A3 n3 a) : a.ok g := ⟨o.row, o.byt, o.fro, o.fln, o.at1⟩
theorem AO.ext {g g' : H} {A3 : Option Addr} {n3 : Nat} {a : Act} (o : AO g A3 n3 a) (x : Ext g g') : AO g' A3 n3 a :=
  { o with row := o.row.ext x, fro := o.fro.ext x, tA := fun i hi => (o.tA i hi).imp fun _ k => k.ext x, tB := fun i hi => (o.tB i hi).imp fun _ k => k.ext x }
/-- the row of acts grows -/
theorem AO.acts {g g' : H} {A3 A2 : Option Addr} {n3 base n c : Nat} {cs : Array Value} {a : Act} (o : AO g A3 n3 a) (w : Own g base 33 4 A2 n c cs) (x : Go.Oct.Mod g g' (blkOf A2)) : AO g' A3 n3 a := by
  have hA : ∀ i, blkOf a.A i → ¬ blkOf A2 i := fun i hi e => by obtain ⟨cur, k⟩ := o.tA i hi; exact w.not_blk (by decide) i cur e k
  have hB : ∀ i, blkOf a.B i → ¬ blkOf A2 i := fun i hi e => by obtain ⟨cur, k⟩ := o.tB i hi; exact w.not_blk (by decide) i cur e k
  exact { o with
    row := o.row.mod x (fun ad e => hA _ ⟨ad, e, rfl⟩)
    fro := o.fro.mod x (fun ad e => hB _ ⟨ad, e, rfl⟩)
    tA := fun i hi => (o.tA i hi).imp fun _ k => k.mod x (hA i hi)
    tB := fun i hi => (o.tB i hi).imp fun _ k => k.mod x (hB i hi) }
/-- the row of fates grows: what stood in it stands -/
theorem AO.fates {g g' : H} {A3 A' : Option Addr} {n3 base c : Nat} {cs : Array Value} {a : Act} (o : AO g A3 n3 a) (w : Own g base 44 2 A3 n3 c cs) (x : Go.Oct.Mod g g' (blkOf A3)) (r : RowH g' A3 (n3 * 2) cs) (t : ∀ i, blkOf A3 i → ∃ cur, Blk g' i cur 44)
    (d : ∀ i, blkOf A' i → blkOf A3 i ∨ g.size ≤ i) : AO g' A' (n3 + 1) a := by
  have hA : ∀ i, blkOf a.A i → ¬ blkOf A3 i := fun i hi e => by obtain ⟨cur, k⟩ := o.tA i hi; exact w.not_blk (by decide) i cur e k
  refine { o with
    row := o.row.mod x (fun ad e => hA _ ⟨ad, e, rfl⟩)
    tA := fun i hi => (o.tA i hi).imp fun _ k => k.mod x (hA i hi)
    tB := fun i hi => ?_
    fro := ?_
    lay := ?_ }
  · refine ⟨o.fro.1, fun hm => ?_⟩
    obtain ⟨ad, e, hc⟩ := o.fro.2 hm
    refine ⟨ad, e, fun j hj => ?_⟩
    rw [← hc j hj]
    by_cases h : blkOf A3 ad.block
    · obtain ⟨h1, h2⟩ := o.lay (by omega) ad e h
      obtain ⟨b, off, sp⟩ := ad
      simp only at h1 h2 h
      subst h1
      rw [add_mk]
      have hr := w.row
      obtain ⟨a1, e1, c1⟩ := hr.2 (by omega)
      obtain ⟨a2, e2, c2⟩ := r.2 (by omega)
      rw [e1] at e2
      cases e2
      have hb : a1 = ⟨b, 0, none⟩ := by
        rcases w.2 with ⟨h3, _⟩ | ⟨b', cur, h3, _⟩
        · rw [h3] at e1; cases e1
        · rw [h3] at e1; cases e1
          obtain ⟨ad', e4, e5⟩ := h
          rw [h3] at e4; cases e4
          simp only at e5
          rw [e5]
      subst hb
      have h5 := c1 (off + j) (by omega)
      have h6 := c2 (off + j) (by omega)
      rw [add_mk, Nat.zero_add] at h5 h6
      rw [h5, h6]
    · have hsz : j < (cellsOf fcells a.fs).size := by rw [o.fro.1]; exact hj
      have h1 := hc j hj
      rw [Array.getElem?_eq_getElem hsz] at h1
      rw [h1]
      exact Mod.cell x h1 (by rw [add_block]; exact h)
  · by_cases h : blkOf A3 i
    · exact t i h
    · exact (o.tB i hi).imp fun _ k => k.mod x h
  · intro hm ad e h
    rcases d _ h with h1 | h1
    · have := o.lay hm ad e h1
      exact ⟨this.1, by omega⟩
    · have := RowH.lt o.fro (by omega) ad.block ⟨ad, e, rfl⟩
      omega
theorem acts_fill4 (a b c d : Act) {k : Array Value → Prop} (hk : k (cellsOf Act.cells [a, b, c, d])) : fillK (fun i => some (i * 4, 4)) (List.toArray [.int .i64 0, .int .i64 0, .slice none 0 0, .slice none 0 0, .int .i64 0, .int .i64 0, .slice none 0 0, .slice none 0 0, .int .i64 0, .int .i64 0, .slice none 0 0, .slice none 0 0, .int .i64 0, .int .i64 0, .slice none 0 0, .slice none 0 0])
    [(0, (.agg a.cells.toArray)), (1, (.agg b.cells.toArray)), (2, (.agg c.cells.toArray)), (3, (.agg d.cells.toArray))] k :=
  ⟨cellsOf Act.cells [a, b, c, d], by simp [Instr.fill, Value.cells, Act.cells, List.zipIdx, cellsOf], hk⟩
set_option maxHeartbeats 1000000 in
/-- DiskKnown -/
theorem c5 (h : H) (k : Value → H → Prop) (hk : ∀ h', Ext h h' → k (.bool true) h') : callK Try.prog 5 #[] h k := by
  refine call5 _ _ ?_
  unfold d5
  refine ⟨fun b x g => ∃ i : Nat, x = i ∧ i ≤ 40 ∧ Ext h g, fun b x g => (40 - x).toNat, ⟨0, rfl, by omega, Ext.refl _⟩, ?_⟩
  rintro b x g ⟨i, rfl, hi, eg⟩
  refine ifB_dec (fun hlt => ?_) (fun hge => ?_)
  · refine ⟨fun A3 n3 cc3 A2 n2 cc2 x4 x5 g' => ∃ (t : Nat) (fs : List (Int × Int)) (acts : List Act), x5 = t ∧ t ≤ 24 ∧ n3 = t ∧ n2 = t ∧ 0 ≤ x4 ∧ x4 ≤ 1000000 ∧ Ext g g' ∧ Lst g' g.size 44 fcells 2 A3 n3 cc3 fs ∧ Lst g' g.size 33 Act.cells 4 A2 n2 cc2 acts ∧ ∀ a ∈ acts, AO g' A3 n3 a,
      fun A3 n3 cc3 A2 n2 cc2 x4 x5 g' => (24 - x5).toNat, ⟨0, [], [], rfl, by omega, rfl, rfl, by omega, by omega, Ext.refl _, Lst.nil, Lst.nil, by simp⟩, ?_⟩
    rintro A3 n3 cc3 A2 n2 cc2 x4 x5 g' ⟨t, fs, acts, rfl, ht, hn3, hn2, hx40, hx41, eg', lf, la, hao⟩
    refine ifB_dec (fun hlt2 => ?_) (fun hge2 => ?_)
    · rw [needK_true (by decide), needK_true (by decide), needK_true (by decide)]
      refine fate_fill (_, _) (alloc_new fun p24 g1 y1 b1 x1 => src_blk b1 rfl ?_)
      have lf1 := lf.ext x1
      have e1 := eg'.trans x1
      refine append_own2 (m := 1) lf1.2 rfl (by simpa using fcells_one _) (by simp [fcells]) (by omega) e1.size (by omega) fun A4 cc4 g2 o2 m2 d2 r2 t2 => ?_
      have hao2 : ∀ a ∈ acts, AO g2 A4 (n3 + 1) a := fun a ha => ((hao a ha).ext x1).fates lf1.2 m2 r2 t2 d2
      have la2 : Lst g2 g.size 33 Act.cells 4 A2 n2 cc2 acts := (la.ext x1).mod m2 ((la.ext x1).2.disj lf1.2 (by decide))
      have e2 : Ext g g2 := e1.then m2 (fun i hi => lf1.2.base_le hi)
      refine draw_ext ?_
      rw [needK_true (by decide), needK_true (by decide), needK_true (by decide), needK_true (by decide), needK_true (by decide), needK_true (by decide), needK_true (by simp)]
      generalize hfs : ((_ : Int), (_ : Int)) = f at o2
      rw [cellsOf_push] at o2
      have lf2 : Lst g2 g.size 44 fcells 2 A4 (n3 + 1) cc4 (fs ++ [f]) := ⟨by simp [lf.1], o2⟩
      have hd2 : IntKind.wrap .i64 (Int.tdiv (t : Int) 2) = ((t / 2 : Nat) : Int) := by
        rw [Int.tdiv_eq_ediv_of_nonneg (by omega), wrap64_id (by omega) (by omega)]; omega
      rw [hd2]
      have hle := o2.le
      refine ⟨by simp only [Option.getD_some]; omega, by simp only [Option.getD_some, Option.getD_none]; omega, by simp only [Option.getD_none]; omega, by simp, ?_⟩
      simp only [Option.getD_some, Option.getD_none, Int.toNat_natCast]
      rw [if_neg (by omega)]
      have hcsz : (cellsOf fcells (fs ++ [f])).size = (n3 + 1) * 2 := lf2.2.row.1
      have hfl : (fs ++ [f]).length = n3 + 1 := lf2.1
      have rowB : RowH g2 (A4.map (·.add (t / 2 * 2))) ((n3 + 1 - t / 2) * 2) (cellsOf fcells ((fs ++ [f]).drop (t / 2))) := by
        have h1 := lf2.2.row.part (t / 2 * 2) ((n3 + 1 - t / 2) * 2) (by omega)
        have h2 : (cellsOf fcells (fs ++ [f])).extract (t / 2 * 2) (t / 2 * 2 + (n3 + 1 - t / 2) * 2) = cellsOf fcells ((fs ++ [f]).drop (t / 2)) := by
          apply Array.ext'
          have h3 := flat_take fcells_len (fs ++ [f]) (t / 2) (by omega)
          have h4 : (fs ++ [f]).flatMap fcells = ((fs ++ [f]).take (t / 2)).flatMap fcells ++ ((fs ++ [f]).drop (t / 2)).flatMap fcells := by
            rw [← List.flatMap_append, List.take_append_drop]
          have h5 := flat_length fcells_len ((fs ++ [f]).take (t / 2))
          have h6 := flat_length fcells_len ((fs ++ [f]).drop (t / 2))
          rw [List.length_take] at h5
          rw [List.length_drop] at h6
          simp only [cellsOf, List.extract_toArray, List.extract_eq_take_drop]
          rw [h4, List.drop_left' (by omega), List.take_of_length_le (by omega)]
        rwa [h2] at h1
      refine alloc_new fun p40 g3 y3 b3 x3 => ?_
      obtain ⟨dk, hdk⟩ := Int.eq_ofNat_of_zero_le (show 0 ≤ Int.tmod x4 5 by rw [Int.tmod_eq_emod_of_nonneg hx40]; omega)
      have hdk5 : dk < 5 := by rw [Int.tmod_eq_emod_of_nonneg hx40] at hdk; omega
      rw [needK_true (by simp), hdk]
      have r3 : RowH g3 (some ⟨p40, 0, none⟩) 4 (([IntKind.wrap .u8 x4, IntKind.wrap .u8 (t : Int), 3, IntKind.wrap .u8 (IntKind.wrap .i64 (Int.tdiv x4 7))] : List Int).map bf).toArray := litB b3 rfl
      refine row_slice r3 (by omega) (l := 0) (u := dk) rfl rfl (by omega) (by omega) fun A43 c43 r43 _ _ d43 => ?_
      rw [List.drop_zero, Nat.sub_zero] at r43
      rw [Nat.sub_zero]
      have hb43 : ∀ x ∈ List.take dk ([IntKind.wrap .u8 x4, IntKind.wrap .u8 (t : Int), 3, IntKind.wrap .u8 (IntKind.wrap .i64 (Int.tdiv x4 7))] : List Int), isB x := by
        intro x hx
        have hx := List.mem_of_mem_take hx
        simp only [List.mem_cons, List.not_mem_nil, or_false] at hx
        rcases hx with rfl | rfl | rfl | rfl
        · exact wrap8_isB _
        · exact wrap8_isB _
        · decide
        · exact wrap8_isB _
      generalize List.take dk ([IntKind.wrap .u8 x4, IntKind.wrap .u8 (t : Int), 3, IntKind.wrap .u8 (IntKind.wrap .i64 (Int.tdiv x4 7))] : List Int) = bs0 at r43 hb43
      have hat : IntKind.wrap .i64 (Int.tmod x4 25 - 1) ≤ 9223372036854775807 := by rw [IntKind.wrap_i64]; omega
      generalize IntKind.wrap .i64 (Int.tmod x4 25 - 1) = vAt at hat ⊢
      generalize Int.tmod (IntKind.wrap .i64 (Int.tdiv x4 3)) 8 = vDo
      refine act_fill ⟨vDo, vAt, A43, dk, c43, bs0, A4.map (·.add (t / 2 * 2)), n3 + 1 - t / 2, cc4 - t / 2, (fs ++ [f]).drop (t / 2)⟩ (alloc_new fun p49 g4 y4 b4 x4' => src_blk b4 rfl ?_)
      have x34 := x3.trans x4'
      have e4 := e2.trans x34
      refine Lst.push (f := Act.cells) Act.len (la2.ext x34) _ rfl (Act.one _) (by omega) e4.size (by omega) fun A5 cc5 g5 l5 m5 d5 => ?_
      rw [needK_true (by decide)]
      have e5 := e4.then m5 (fun i hi => la2.2.base_le hi)
      have hw : IntKind.wrap .i64 (IntKind.wrap .i64 (IntKind.wrap .i64 (x4 * 31) + IntKind.wrap .i64 (7 * (t : Int))) + 11) = x4 * 31 + 7 * t + 11 := by
        rw [wrap64_id (x := x4 * 31) (by omega) (by omega), wrap64_id (x := 7 * (t : Int)) (by omega) (by omega), wrap64_id (x := x4 * 31 + 7 * (t : Int)) (by omega) (by omega), wrap64_id (by omega) (by omega)]
      refine ⟨⟨t + 1, _, _, wrap64_id (by omega) (by omega), by omega, by omega, by omega, ?_, ?_, e5, (lf2.ext x34).mod m5 ((lf2.ext x34).2.disj (la2.ext x34).2 (by decide)), l5, ?_⟩, ?_⟩
      · rw [hw, Int.tmod_eq_emod_of_nonneg (by omega)]; omega
      · rw [hw, Int.tmod_eq_emod_of_nonneg (by omega)]; omega
      · intro a ha
        rcases List.mem_append.1 ha with ha | ha
        · exact ((hao2 a ha).ext x34).acts (la2.ext x34).2 m5
        · rw [List.mem_singleton.1 ha]
          have base : AO g4 A4 (n3 + 1) ⟨vDo, vAt, A43, dk, c43, bs0, A4.map (·.add (t / 2 * 2)), n3 + 1 - t / 2, cc4 - t / 2, (fs ++ [f]).drop (t / 2)⟩ := by
            refine ⟨r43.ext x4', hb43, ?_, ?_, rowB.ext x34, ?_, ?_, ?_⟩
            · exact hat
            · intro i hi
              obtain ⟨ad, e, rfl⟩ := d43 i hi
              cases e
              exact ⟨_, b3.ext x4'⟩
            · rw [List.length_drop, hfl]
            · rintro i ⟨ad, e, rfl⟩
              cases hA4 : A4 with
              | none => rw [hA4] at e; cases e
              | some a4 =>
                rw [hA4] at e
                cases e
                rw [add_block]
                obtain ⟨cur, kk⟩ := (lf2.ext x34).2.blk (i := a4.block) ⟨a4, hA4, rfl⟩
                exact ⟨cur, kk⟩
            · intro _ ad e _
              rcases lf2.2.2 with ⟨h3, _⟩ | ⟨b', cur, h3, _⟩
              · rw [h3] at e; cases e
              · rw [h3] at e
                cases e
                dsimp only
                rw [add_mk]
                refine ⟨rfl, ?_⟩
                dsimp only
                omega
          exact base.acts (la2.ext x34).2 m5
      · rw [wrap64_id (x := (t : Int) + 1) (by omega) (by omega)]
        dsimp only
        omega
    · have ht24 : t = 24 := by omega
      subst ht24
      subst hn3
      subst hn2
      have hok : ∀ a ∈ acts, a.ok g' := fun a ha => (hao a ha).ok
      refine ⟨fun b g => b = false ∧ Ext g' g, ?_, ?_⟩
      · refine ⟨(by decide : (9 : Int) ≠ 0), (by decide : (3 : Int) ≠ 0), ?_⟩
        refine c20 _ _ _ _ acts _ _ _ _ la.2.row la.1 hok (by simp only [IntKind.wrap_i64]; omega) fun g1 x1 => asB_of ?_
        rw [ifB_nt]
        refine c3 _ _ _ _ acts _ _ _ fs _ _ (la.ext x1).2.row la.1 (fun a ha => (hok a ha).ext x1) (lf.ext x1).2.row lf.1 fun g2 x2 => asB_of ?_
        rw [ifB_nt, needK_true (by decide)]
        have hti : Int.tmod (i : Int) 24 = ((i % 24 : Nat) : Int) := by rw [Int.tmod_eq_emod_of_nonneg (by omega)]; omega
        have hal : acts.length = 24 := la.1
        have hxi : acts[i % 24]? = some (acts[i % 24]'(by omega)) := List.getElem?_eq_getElem (by omega)
        refine (la.ext (x1.trans x2)).index Act.len hti hxi fun b _ ha => ha.loadN rfl ?_
        refine c4 _ _ _ _ fun g3 x3 => asB_of ⟨rfl, x1.trans (x2.trans x3)⟩
      rintro b g2 ⟨rfl, x2⟩
      rw [ifB_false]
      refine ⟨⟨i + 1, wrap64_id (by omega) (by omega), by omega, eg.trans (eg'.trans x2)⟩, ?_⟩
      rw [wrap64_id (by omega) (by omega)]
      dsimp only
      omega
  · have rn : ∀ g : H, RowH g none (0 * 4) (cellsOf Act.cells []) := fun g => ⟨rfl, fun h => absurd h (by decide)⟩
    refine c20 _ _ _ _ [] _ _ _ _ (rn _) rfl (by simp) (by decide) fun g1 x1 => asB_of ?_
    rw [ifB_true]
    refine c20 _ _ _ _ [] _ _ _ _ (rn _) rfl (by simp) (by decide) fun g2 x2 => asB_of ?_
    rw [ifB_true]
    refine alloc_new fun p90 g3 y3 b3 x3 => ?_
    have r3 : RowH g3 (some ⟨p90, 0, none⟩) 1 (([1] : List Int).map bf).toArray := litB b3 rfl
    refine acts_fill4 ⟨0, 4611686018427387904, some ⟨p90, 0, none⟩, 1, 1, [1], none, 0, 0, []⟩ ⟨0, 9, none, 0, 0, [], none, 0, 0, []⟩ ⟨0, 10, none, 0, 0, [], none, 0, 0, []⟩ ⟨0, -1, none, 0, 0, [], none, 0, 0, []⟩ ?_
    refine alloc_new fun p95 g4 y4 b4 x4 => ?_
    have rz : RowH g4 none (0 * 2) (cellsOf fcells []) := ⟨rfl, fun h => absurd h (by decide)⟩
    refine c20 _ _ _ _ [⟨0, 4611686018427387904, some ⟨p90, 0, none⟩, 1, 1, [1], none, 0, 0, []⟩, ⟨0, 9, none, 0, 0, [], none, 0, 0, []⟩, ⟨0, 10, none, 0, 0, [], none, 0, 0, []⟩, ⟨0, -1, none, 0, 0, [], none, 0, 0, []⟩] _ _ _ _ ?_ rfl ?_ (by decide) fun g5 x5 => asB_of ?_
    · exact b4.row 0 16 (by simp [cellsOf, Act.cells])
    · intro a ha
      simp only [List.mem_cons, List.not_mem_nil, or_false] at ha
      rcases ha with rfl | rfl | rfl | rfl
      · exact ⟨r3.ext x4, isB_lit (xs := [1]) (by decide), rz, rfl, (by decide : (4611686018427387904 : Int) ≤ 9223372036854775807)⟩
      · exact ⟨RowH.nil, by simp, rz, rfl, by decide⟩
      · exact ⟨RowH.nil, by simp, rz, rfl, by decide⟩
      · exact ⟨RowH.nil, by simp, rz, rfl, by decide⟩
    rw [ifB_true]
    exact c8 _ _ fun h' e => asB_of (hk h' (eg.trans (x1.trans (x2.trans (x3.trans (x4.trans (x5.trans e)))))))
end Go.Proofs.Ytfeodnhklibegaa
