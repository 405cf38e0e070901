/- What is proved: contracts of functions that the law calls, and of the law itself, over any heap. Conditions stand in each theorem. -/
import Derived.Test.YthfjpnabalkjkaaXK06g
set_option linter.unusedSimpArgs false
set_option linter.unusedVariables false
namespace Go.Proofs.Ythfjpnabalkjkaa
open Go.Oct Go.Oct.L01 Go.Oct.L06
/-- a chain that came in, of any size -/
structure Ex.ok0 (x : Ex) (h : H) : Prop where
  row : RowH h x.A x.n (x.d.map bf).toArray
  le : x.n ≤ x.c
  byk : isB x.k
  byd : ∀ y ∈ x.d, isB y
structure Ch0 (h : H) (A : Option Addr) (n : Nat) (xs : List Ex) (p : Int) : Prop where
  row : RowH h A (n * 2) (cellsOf Ex.cells xs)
  len : xs.length = n
  ok : ∀ x ∈ xs, x.ok0 h
  byp : isB p
theorem Ch0.ext {h h' : H} {A : Option Addr} {n : Nat} {xs : List Ex} {p : Int} (c : Ch0 h A n xs p) (e : Go.Oct.Ext h h') : Ch0 h' A n xs p :=
  { c with row := c.row.ext e, ok := fun x hx => { c.ok x hx with row := (c.ok x hx).row.ext e } }
theorem Ch0.ch {h : H} {A : Option Addr} {n : Nat} {xs : List Ex} {p : Int} (c : Ch0 h A n xs p) (hn : n ≤ 20) (hx : ∀ x ∈ xs.take 21, x.n ≤ 2060) : Ch h A n xs p := by
  rw [List.take_of_length_le (by rw [c.len]; omega)] at hx
  exact ⟨c.row, c.len, by omega, fun x h => ⟨(c.ok x h).row, (c.ok x h).le, by have := hx x h; omega, (c.ok x h).byk, (c.ok x h).byd⟩, c.byp⟩
section
variable {h : H} {k : Value → H → Prop} {A : Option Addr} {n c : Nat} {xs : List Ex} {p : Int}
/-- Frag -/
theorem c20 (ch : Ch h A n xs p) (hno : (¬ RightC (pairs xs) p ∨ ∀ x ∈ xs, x.k ≠ 44) → ∀ h', Go.Oct.Ext h h' → k (.tuple #[.int .u16 0, .bool false, .int .u32 0, .bool false]) h')
    (hk : RightC (pairs xs) p → ∀ (j : Nat) (x : Ex), xs[j]? = some x → x.k = 44 → (∀ (i : Nat) (y : Ex), i < j → xs[i]? = some y → y.k ≠ 44) → ∀ h', Go.Oct.Ext h h' → k (.tuple #[.int .u16 (hd x.d / 8), .bool (decide (hd x.d % 2 = 1)), .int .u32 (getR x.d 2 4).1, .bool true]) h') : callK Try.prog 20 #[.agg (chv A n c p)] h k := by
  refine call20 _ _ _ ?_
  unfold d20
  refine alloc_new fun p1 g1 y1 b1 x1 => ?_
  have a1 : At g1 p1 0 [.slice A n c, .int .u8 p] := b1.at_
  have hsm := ch.small
  refine addrK_of rfl (a1.load1 0 rfl rfl (asS_of ?_))
  have c1 := ch.ext x1
  refine c45 46 (fun x => decide (x.k = 44)) A n c xs c1.row c1.len c1.small (fun x hx g k e hk => c46 x ((c1.ok x hx).ext e) hk) (fun hall g2 x2 => asI_of ?_) (fun j x hx hp hall g2 x2 => asI_of ?_)
  · refine ⟨fun b g => b = true ∧ g = g2, ifB_dec (fun _ => ⟨rfl, rfl⟩) (fun h => absurd (by decide) h), ?_⟩
    rintro b g ⟨rfl, rfl⟩
    exact hno (.inr fun x hx => by simpa using hall x hx) g (x1.trans x2)
  · have hj : j < xs.length := (List.getElem?_eq_some_iff.1 hx).1
    have hlen := ch.len
    have hp : x.k = 44 := by simpa using hp
    have a2 := a1.ext x2
    refine ⟨fun b g => Go.Oct.Ext g2 g ∧ (b = false ↔ RightC (pairs xs) p), ifB_dec (fun h => by omega) (fun _ => a2.loadN rfl (c17 (c1.ext x2) fun b hb g3 x3 => asB_of ⟨x3, ?_⟩)), ?_⟩
    · rw [← hb]; cases b <;> simp
    rintro b g3 ⟨x3, hb⟩
    have x13 := x1.trans (x2.trans x3)
    refine ifB_of (fun h1 => hno (.inl fun hR => by rw [hb.2 hR] at h1; cases h1) g3 x13) (fun h1 => ?_)
    have hR := hb.1 h1
    have a3 := a2.ext x3
    have c3 := ch.ext x13
    have ox := c3.ok x (List.mem_of_getElem? hx)
    refine addrK_of rfl (a3.load1 0 rfl rfl (asS_of ?_))
    refine rowL_index Ex.len (by omega) c3.row rfl hx fun b q _ ha => ha.loadN rfl ?_
    refine c47 x ox fun g4 x4 => asT3_of (asI_of (asI_of (asB_of ?_)))
    refine addrK_of rfl ((a3.ext x4).load1 0 rfl rfl (asS_of ?_))
    refine rowL_index Ex.len (by omega) (c3.ext x4).row rfl hx fun b q _ ha => addrK_of rfl (ha.load1 1 rfl rfl (asS_of ?_))
    have o4 := ox.ext x4
    refine c48 x.A x.n x.c x.d 2 4 g4 _ o4.row o4.le o4.small (by decide) o4.byd (asT2_of (asI_of (asI_of ?_)))
    have hv : 0 ≤ (getR x.d 2 4).1 ∧ (getR x.d 2 4).1 < 4294967296 := by
      unfold getR
      split
      · exact ⟨by decide, by decide⟩
      · split
        · exact ⟨by decide, by decide⟩
        · rename_i h
          have h1 := val_bound 4 ((x.d.drop 2).take 4) (by simp at h ⊢; omega) (fun y hy => ox.byd y (List.mem_of_mem_drop (List.mem_of_mem_take hy)))
          simpa using h1
    have w : IntKind.wrap .u32 (getR x.d 2 4).1 = (getR x.d 2 4).1 := by rw [IntKind.wrap_u32]; omega
    rw [w]
    exact hk hR j x hx hp (fun i y hi hy => by simpa using hall i y hi hy) g4 (x13.trans x4)
/-- few -/
theorem c8 (ch : Ch0 h A n xs p) (hno : ∀ h', Go.Oct.Ext h h' → k (.bool false) h') (hk : (∀ x ∈ xs.take 21, x.n ≤ 2060) → ∀ h', Go.Oct.Ext h h' → k (.bool (decide ((n : Int) ≤ 20))) h') : callK Try.prog 8 #[.agg (chv A n c p)] h k := by
  refine call8 _ _ _ ?_
  unfold d8
  refine alloc_new fun p1 g1 y1 b1 x1 => ?_
  have a1 : At g1 p1 0 [.slice A n c, .int .u8 p] := b1.at_
  have hlen := ch.len
  refine ⟨fun b x g => g = g1 ∧ ∃ j : Nat, x = j ∧ j ≤ n ∧ j ≤ 21 ∧ ∀ a ∈ xs.take j, a.n ≤ 2060, fun b x g => (100 - x).toNat, ⟨rfl, 0, rfl, by omega, by omega, by simp⟩, ?_⟩
  rintro b x g ⟨rfl, j, rfl, hj, hj2, hall⟩
  refine ⟨fun b g' => g' = g ∧ b = decide (j < n ∧ j < 21), ?_, ?_⟩
  · refine addrK_of rfl (a1.load1 0 rfl rfl (asS_of ?_))
    refine ifB_dec (fun h1 => ⟨rfl, by simp only [decide_eq_decide]; omega⟩) (fun h1 => ⟨rfl, ?_⟩)
    rw [eq_comm, decide_eq_false_iff_not]; omega
  rintro b g' ⟨rfl, rfl⟩
  refine ifB_dec (fun h1 => ?_) (fun h1 => ?_)
  · have hx : xs[j]? = some xs[j] := List.getElem?_eq_getElem (by omega)
    refine addrK_of rfl (a1.load1 0 rfl rfl (asS_of ?_))
    refine rowL_index Ex.len (by omega) (ch.row.ext x1) rfl hx fun b q _ ha => addrK_of rfl (ha.load1 1 rfl rfl (asS_of ?_))
    refine ifB_dec (fun h2 => hno _ x1) (fun h2 => ?_)
    rw [wrap64_id (by omega) (by omega)]
    refine ⟨⟨rfl, j + 1, rfl, by omega, by omega, ?_⟩, by dsimp only; omega⟩
    rw [List.take_succ_eq_append_getElem (by omega)]
    intro a ha
    rcases List.mem_append.1 ha with ha | ha
    · exact hall a ha
    · rw [List.mem_singleton.1 ha]; omega
  · refine addrK_of rfl (a1.load1 0 rfl rfl (asS_of (hk (fun a ha => hall a ?_) g' x1)))
    by_cases h2 : j = 21
    · subst h2; exact ha
    · have : j = n := by omega
      rw [List.take_of_length_le (by omega)] at ha ⊢
      exact ha
end
theorem ex_fill (x : Ex) {k : Array Value → Prop} (hk : k x.cells.toArray) : fillK (fun i => some (i * 2, 2)) (List.toArray [.int .u8 0, .slice none 0 0]) [(0, (.agg x.cells.toArray))] k :=
  ⟨_, by simp [Instr.fill, Value.cells, Ex.cells, List.zipIdx], hk⟩
theorem bz (n : Nat) : ∀ x ∈ List.replicate n (0 : Int), isB x := by
  intro x hx
  rw [(List.mem_replicate.1 hx).2]
  decide
theorem right1 : RightC [(60, List.replicate 6 0)] 6 := by
  refine ⟨by decide, by decide, ?_, ?_, by decide⟩
  · intro i x hx h0
    have := (List.getElem?_eq_some_iff.1 hx).1
    simp at this; exact this
  · intro i x hx hl
    have := (List.getElem?_eq_some_iff.1 hx).1
    simp at this ⊢; exact this
set_option maxRecDepth 4000 in
set_option maxHeartbeats 1000000 in
/-- works -/
theorem c9 (h : H) (k : Value → H → Prop) (hk : ∀ h', Go.Oct.Ext h h' → k (.bool true) h') : callK Try.prog 9 #[] h k := by
  refine call9 _ _ ?_
  unfold d9
  refine made_one (f := bf) (z := 0) (m := 6) rfl (by decide) (by decide) fun b1 g1 l1 y1 x1 => ?_
  refine ex_fill ⟨60, some ⟨b1, 0, none⟩, 6, 6, List.replicate 6 0⟩ (alloc_new fun p20 g2 y2 b2 x2 => ?_)
  have x12 := x1.trans x2
  have ch : Ch g2 (some ⟨p20, 0, none⟩) 1 [⟨60, some ⟨b1, 0, none⟩, 6, 6, List.replicate 6 0⟩] 6 := by
    refine ⟨by simpa [cellsOf, Ex.cells] using b2.row 0 2 (by simp [Ex.cells]), rfl, by decide, ?_, by decide⟩
    intro x hx
    rw [List.mem_singleton.1 hx]
    exact ⟨Lst.row (f := bf) (l1.ext x2), by dsimp only; omega, by dsimp only; omega, (by decide : isB 60), bz 6⟩
  refine c10 (c := 1) ch (fun hn => absurd right1 hn) (fun _ A3 n3 c3 g3 x3 l3 => asT3_of (asS_of (asI_of (asI_of ?_))))
  have x13 := x12.trans x3
  refine alloc_new fun p27 g4 y4 b4 x4 => ?_
  have r4 : RowH g4 (some ⟨p27, 0, none⟩) 8 (([17, 0, 0, 9, 0, 0, 0, 5] : List Int).map bf).toArray := litB b4 rfl
  have pa : parse 44 [17, 0, 0, 9, 0, 0, 0, 5] = .inl ([(44, [0, 9, 0, 0, 0, 5])], 17, 8) := by rfl
  refine c11 44 _ 8 8 [17, 0, 0, 9, 0, 0, 0, 5] (by decide) r4 (by decide) (by decide) (isB_lit (by decide)) (fun e he => by rw [pa] at he; cases he) (fun A5 n5 c5 xs p u hp hpb g5 x5 cx => asT3_of (asA_of rfl (asI_of (asI_of ?_))))
  rw [pa] at hp
  simp only [Sum.inl.injEq, Prod.mk.injEq] at hp
  obtain ⟨hxs, rfl, rfl⟩ := hp
  have x15 := x13.trans (x4.trans x5)
  refine newVr (by simp) rfl (by simp [OneCells, chv, Value.oneCell']) fun p4 g6 y6 b6 x6 => ?_
  have a6 : At g6 p4 0 [.slice A5 n5 c5, .int .u8 17] := b6.at_
  refine a6.loadN rfl ?_
  obtain ⟨ex, rfl⟩ : ∃ ex, xs = [ex] := by
    have hl : xs.length = 1 := by have := congrArg List.length hxs; simpa [pairs] using this.symm
    exact List.length_eq_one_iff.1 hl
  have hex : ex.k = 44 ∧ ex.d = [0, 9, 0, 0, 0, 5] := by
    simp only [pairs, List.map_cons, List.map_nil, Ex.pair, List.cons.injEq, Prod.mk.injEq, and_true] at hxs
    exact ⟨hxs.1.symm, hxs.2.symm⟩
  have hR : RightC (pairs [ex]) 17 := by
    have := (put_of_parse (first := 44) (isB_lit (by decide)) pa).1
    rwa [hxs] at this
  refine c20 (c := c5) ((cx.ext x6).ch hpb) (fun hno => ?_) (fun _ j x hx hx44 hall g7 x7 => asT4_of (asI_of (asB_of (asI_of (asB_of ?_)))))
  · rcases hno with hno | hno
    · exact absurd hR hno
    · exact absurd hex.1 (hno ex (by simp))
  have hj : j = 0 := by
    have := (List.getElem?_eq_some_iff.1 hx).1
    simpa using this
  subst hj
  have hxe : x = ex := by simpa using hx.symm
  subst hxe
  rw [hex.2]
  have x17 := x15.trans (x6.trans x7)
  have p6 : parse 6 [] = .inl ([], 6, 0) := by rfl
  refine c11 6 none 0 0 [] (by decide) RowH.nil (by decide) (by decide) (by simp) (fun e he => by rw [p6] at he; cases he) (fun A8 n8 c8 ys p u hp hpb2 g8 x8 cx8 => asT3_of (asA_of rfl (asI_of (asI_of ?_))))
  rw [p6] at hp
  simp only [Sum.inl.injEq, Prod.mk.injEq] at hp
  obtain ⟨hys, rfl, rfl⟩ := hp
  have hys0 : ys = [] := by
    have hl : ys.length = 0 := by have := congrArg List.length hys; simpa [pairs] using this.symm
    exact List.length_eq_zero_iff.1 hl
  have hn8 : n8 = 0 := by have := cx8.exts.1; rw [hys0] at this; simpa using this.symm
  subst hn8
  refine newVr (by simp) rfl (by simp [OneCells, chv, Value.oneCell']) fun p11 g9 y9 b9 x9 => ?_
  have a9 : At g9 p11 0 [.slice A8 0 c8, .int .u8 6] := b9.at_
  refine made_one (f := bf) (z := 0) (m := 8) rfl (by decide) (by decide) fun b10 g10 l10 y10 x10 => ?_
  have p60 : parse 60 (List.replicate 8 0) = .inr 60 := by rfl
  refine c11 60 _ 8 8 (List.replicate 8 0) (by decide) (Lst.row (f := bf) l10) (by decide) (by decide) (bz 8) (fun e he g11 x11 => asT3_of (asA_of rfl (asI_of (asI_of ?_)))) (fun A8 n8 c8 ys p u hp => by rw [p60] at hp; cases hp)
  rw [p60] at he
  cases he
  refine newVr (by simp) rfl (by simp [OneCells, chv, Value.oneCell']) fun p14 g12 y12 b12 x12' => ?_
  have xa := x8.trans (x9.trans (x10.trans (x11.trans x12')))
  refine ifB_eq (fun _ => ?_) (fun h => absurd rfl h)
  refine ifB_eq (fun _ => ?_) (fun h => absurd rfl h)
  refine alloc_new fun p58 g13 y13 b13 x13' => ?_
  have r13 : RowH g13 (some ⟨p58, 0, none⟩) 8 (([6, 0, 0, 0, 0, 0, 0, 0] : List Int).map bf).toArray := litB b13 rfl
  have xb := xa.trans x13'
  have hpl : putL (pairs [⟨60, some ⟨b1, 0, none⟩, 6, 6, List.replicate 6 0⟩]) 6 = [6, 0, 0, 0, 0, 0, 0, 0] := by
    show putL [(60, List.replicate 6 0)] 6 = _
    decide
  rw [hpl] at l3
  have hn3 : n3 = 8 := by have := l3.1; simpa using this.symm
  subst hn3
  refine c16 A3 8 c3 _ _ 8 8 _ g13 _ (Lst.row (f := bf) (l3.ext (x4.trans (x5.trans (x6.trans (x7.trans xb)))))) r13 (by decide) (asB_of ?_)
  rw [decide_eq_true rfl, ifB_true]
  refine ifB_eq (fun _ => ?_) (fun h => absurd rfl h)
  refine ifB_eq (fun _ => ?_) (fun h => absurd rfl h)
  refine addrK_of rfl ((a6.ext (x7.trans xb)).load1 1 rfl rfl (asI_of ?_))
  refine ifB_eq (fun _ => ?_) (fun h => absurd rfl h)
  refine ifB_eq (fun _ => ?_) (fun h => absurd (by decide) h)
  refine ifB_dec (fun _ => ?_) (fun h => absurd (by decide) h)
  refine ifB_eq (fun _ => ?_) (fun h => absurd (by decide) h)
  rw [ifB_true]
  refine ifB_eq (fun _ => ?_) (fun h => absurd rfl h)
  refine ifB_eq (fun _ => ?_) (fun h => absurd rfl h)
  refine addrK_of rfl ((a9.ext (x10.trans (x11.trans (x12'.trans x13')))).load1 0 rfl rfl (asS_of ?_))
  refine ifB_eq (fun _ => ?_) (fun h => absurd rfl h)
  exact hk g13 (x17.trans xb)
end Go.Proofs.Ythfjpnabalkjkaa
