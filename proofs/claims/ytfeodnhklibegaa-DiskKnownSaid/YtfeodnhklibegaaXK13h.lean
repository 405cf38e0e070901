/- What is proved: contracts of functions that the law calls, and of the law itself, over any heap. Conditions stand in each theorem. -/
import Derived.Test.YtfeodnhklibegaaXK13g
set_option linter.unusedSimpArgs false
set_option linter.unusedVariables false
namespace Go.Proofs.Ytfeodnhklibegaa
open Go.Oct Go.Oct.L01
def fcells (f : Int × Int) : List Value := [.int .i64 f.1, .int .i64 f.2]
theorem fcells_len (f : Int × Int) : (fcells f).length = 2 := rfl
theorem fcells_one (f : Int × Int) : OneCells (fcells f) := by simp [OneCells, fcells, Value.oneCell']
/-- the fate that counts -/
def fateOf (fs : List (Int × Int)) (j : Nat) : Int × Int :=
  match fs[j]? with
  | some f => if 0 < f.1 ∧ f.1 < 3 then f else (0, 0)
  | none => (0, 0)
theorem fateOf_some {fs : List (Int × Int)} {j : Nat} {f : Int × Int} (hf : fs[j]? = some f) : fateOf fs j = if 0 < f.1 ∧ f.1 < 3 then f else (0, 0) := by unfold fateOf; rw [hf]
theorem fateOf_none {fs : List (Int × Int)} {j : Nat} (hf : fs[j]? = none) : fateOf fs j = (0, 0) := by unfold fateOf; rw [hf]
theorem fateOf_range (fs : List (Int × Int)) (j : Nat) : 0 ≤ (fateOf fs j).1 ∧ (fateOf fs j).1 < 3 := by
  cases hf : fs[j]? with
  | none => rw [fateOf_none hf]; exact ⟨by decide, by decide⟩
  | some f =>
    rw [fateOf_some hf]
    split
    · rename_i h; omega
    · exact ⟨by decide, by decide⟩
theorem amt_fate (fs : List (Int × Int)) (j len : Nat) : amt fs j len = if (fateOf fs j).1 = 1 then (len : Int) else if (fateOf fs j).1 = 2 then maxI 0 (minI (fateOf fs j).2 len) else 0 := by
  unfold amt
  cases hf : fs[j]? with
  | none => rw [fateOf_none hf]; rfl
  | some f =>
    rw [fateOf_some hf]
    by_cases h : 0 < f.1 ∧ f.1 < 3
    · rw [if_pos h]
    · rw [if_neg h]
      have h1 : ¬ f.1 = 1 := by omega
      have h2 : ¬ f.1 = 2 := by omega
      simp [h1, h2]
def does : Array Value := #[.func (.func 21) #[] #[], .func (.func 22) #[] #[], .func (.func 23) #[] #[]]
section
variable {h : H} {base pd : Nat} {S : Nat → Prop} {D N : List Int} {U : List (Int × List Int)}
/-- Crash -/
theorem c11 (d : Dk h base pd S D N U) (A1 : Option Addr) (n1 q1 : Nat) (fs : List (Int × Int)) (k : Value → H → Prop) (hr : RowH h A1 (n1 * 2) (cellsOf fcells fs)) (hfl : fs.length = n1) (hdis : 0 < n1 → ∀ i, blkOf A1 i → ¬ S i) (hU : U.length ≤ 1073741824)
    (hk : ∀ S' h', Dk h' base pd S' (cr fs U D U.length) (cr fs U D U.length) [] → (∀ i, S' i → S i) → Go.Oct.Mod h h' S → k (.int .i64 U.length) h') :
    callK Try.prog 11 #[.pointer (some ⟨pd, 0, none⟩), .slice A1 n1 q1] h k := by
  obtain ⟨A, n, c, B, m, d', C, u, e, ws, s, hUw, hS⟩ := d
  refine call11 _ _ _ _ _ _ ?_
  unfold d11
  rw [needK_true (by simp)]
  refine ifB_of (fun hA => by simp at hA) (fun _ => ?_)
  refine newVar (xs := does) (by simp) rfl (by simp [OneCells, does, Value.oneCell']) fun p5 g1 y5 b5 x1 => ?_
  rw [nilK_some, addrK_mk]
  have s1 := s.mod x1.mod (T := fun _ => False) (fun _ _ e => e)
  refine s1.blk.at_.load1 2 rfl rfl (asS_of ?_)
  have hul : ws.length = u := s.uns.1
  have hUl : U.length = u := by rw [hUw, List.length_map]; exact hul
  have hUin : ∀ w ∈ U, 0 ≤ w.1 ∧ w.1 + w.2.length ≤ D.length := by
    intro v hv; rw [hUw] at hv; obtain ⟨w, hw, rfl⟩ := List.mem_map.1 hv; exact s.inb w hw
  have hUb : ∀ w ∈ U, ∀ x ∈ w.2, isB x := by
    intro v hv; rw [hUw] at hv; obtain ⟨w, hw, rfl⟩ := List.mem_map.1 hv; exact s.byW w hw
  have hcr := cr_facts (fs := fs) hUin s.byD hUb
  have hp5 : ∀ i, S i → i ≠ p5 := fun i hi e => by have := (s.base ((hS i).1 hi)).2; omega
  refine ⟨fun x g => ∃ j : Nat, x = j ∧ j ≤ u ∧ Go.Oct.Mod h g S ∧ Blk g p5 does 56 ∧ DkS g base pd A n c B m d' C u e ws (cr fs U D j) N, fun x g => (u - x).toNat, ⟨0, rfl, by omega, x1.mod, b5, s1⟩, ?_⟩
  rintro x g ⟨j, rfl, hj, mg, b5, sg⟩
  refine ifB_dec (fun hlt => ?_) (fun hge => ?_)
  · have hx : ws[j]? = some ws[j] := List.getElem?_eq_getElem (by omega)
    have hmem := List.getElem_mem (show j < ws.length by omega)
    generalize hw : ws[j] = w at *
    refine sg.uns.index Wt.len rfl hx fun b _ ha => ha.loadN rfl ?_
    refine newVar (by simp) rfl (Wt.one w) fun p7 g2 y7 b7 x2 => ?_
    refine alloc_new fun p8 g3 y8 b8 x3 => ?_
    have x23 := x2.trans x3
    have m3 : Go.Oct.Mod h g3 S := mg.trans x23.mod
    have hr3 : RowH g3 A1 (n1 * 2) (cellsOf fcells fs) := by
      rcases Nat.eq_zero_or_pos n1 with h0 | h0
      · exact ⟨hr.1, fun h => by omega⟩
      · exact hr.mod m3 (fun ad e hi => hdis h0 _ ⟨ad, e, rfl⟩ hi)
    refine ⟨fun b g' => Ext g2 g' ∧ Blk g' p8 (fcells (fateOf fs j)).toArray 44, ?_, ?_⟩
    · refine ⟨fun b g' => g' = g3 ∧ b = decide (j < n1 ∧ 0 < (fs[j]?.getD (0, 0)).1 ∧ (fs[j]?.getD (0, 0)).1 < 3), ?_, ?_⟩
      · refine ifB_dec (fun h1 => ?_) (fun h1 => ⟨rfl, by rw [eq_comm, decide_eq_false_iff_not]; omega⟩)
        have hf : fs[j]? = some fs[j] := List.getElem?_eq_getElem (by omega)
        refine rowL_index fcells_len (by omega) hr3 rfl hf fun b q _ ha => addrK_of rfl (ha.load1 0 rfl rfl (asI_of ?_))
        refine ifB_dec (fun h2 => ?_) (fun h2 => ⟨rfl, by rw [eq_comm, decide_eq_false_iff_not, hf]; simp only [Option.getD_some]; omega⟩)
        refine rowL_index fcells_len (by omega) hr3 rfl hf fun b q _ ha => addrK_of rfl (ha.load1 0 rfl rfl (asI_of ⟨rfl, ?_⟩))
        simp only [decide_eq_decide, hf, Option.getD_some]; omega
      · rintro b g' ⟨rfl, rfl⟩
        refine ifB_dec (fun h1 => ?_) (fun h1 => ?_)
        · have hf : fs[j]? = some fs[j] := List.getElem?_eq_getElem (by omega)
          refine rowL_index fcells_len (by omega) hr3 rfl hf fun b q _ ha => ha.loadN rfl ?_
          refine store_blk b8 rfl (by simp [fcells]) (fcells_one _) fun g4 b4 m4 => ?_
          have b4 : Blk g4 p8 (fcells fs[j]).toArray 44 := b4
          refine ⟨x3.then m4 (fun i hi => by omega), ?_⟩
          rw [fateOf_some hf, if_pos (by rw [hf] at h1; simpa using h1.2)]
          exact b4
        · refine ⟨x3, ?_⟩
          have : fateOf fs j = (0, 0) := by
            cases hf : fs[j]? with
            | none => exact fateOf_none hf
            | some f => rw [fateOf_some hf, if_neg]; intro h2; apply h1; rw [hf]; exact ⟨by have := (List.getElem?_eq_some_iff.1 hf).1; omega, h2⟩
          rw [this]; exact b8
    · rintro b g4 ⟨x4, b8⟩
      have x24 := x2.trans x4
      have sg4 := sg.mod x24.mod (T := fun _ => False) (fun _ _ e => e)
      have b5 := b5.ext x24
      have b7 := b7.ext x4
      have hDl := sg4.dur.1
      have hcrl := (hcr j).1
      have hin := sg4.inb w hmem
      have hwn := (sg4.wts w hmem).1
      have hle := sg4.dur.2.le
      have hsm := s.small
      have hfr := fateOf_range fs j
      obtain ⟨o, ho⟩ := Int.eq_ofNat_of_zero_le hin.1
      refine draw_ext ?_
      rw [nilK_some, addrK_mk]
      refine sg4.blk.at_.loadS1 0 rfl rfl (asS_of ?_)
      have a7 : At g4 p7 0 w.cells := b7.at_
      have a8 : At g4 p8 0 (fcells (fateOf fs j)) := b8.at_
      refine addrK_of rfl (a7.loadS1 0 rfl rfl (asI_of ⟨by simp, ?_⟩))
      rw [ho]
      refine ⟨by simp, by simp only [Option.getD_some, Option.getD_none]; omega, by simp only [Option.getD_some, Option.getD_none]; omega, by simp, ?_⟩
      simp only [Option.getD_some, Option.getD_none, Int.toNat_natCast, Nat.mul_one]
      refine addrK_of rfl (a7.loadS1 1 rfl rfl (asS_of ?_))
      refine addrK_of rfl (a8.loadS1 0 rfl rfl (asI_of ?_))
      have hat := amt_fate fs j w.bs.length
      have har := amt_range fs j w.bs.length
      have tail : ∀ (x63 : Int) g5, Ext g4 g5 → x63 = amt fs j w.bs.length → sliceK 1 w.A w.n w.c none (some x63) none (fun A64 n64 c64 => copyK 1 (if c = o then A else A.map (·.add o)) (n - o) A64 n64 g5 (fun h' => andT [.int .i64] (fun (x : Int) g => ∃ j : Nat, x = j ∧ j ≤ u ∧ Go.Oct.Mod h g S ∧ Blk g p5 does 56 ∧ DkS g base pd A n c B m d' C u e ws (cr fs U D j) N) (fun x g => (u - x).toNat) (u - j : Int).toNat (IntKind.wrap .i64 ((j : Int) + 1)) h')) := by
        intro x63 g5 x5 hx63
        have sg5 := sg4.mod x5.mod (T := fun _ => False) (fun _ _ e => e)
        obtain ⟨t, ht⟩ := Int.eq_ofNat_of_zero_le (show 0 ≤ x63 by omega)
        subst ht
        have hwt := sg5.wts w hmem
        refine row_slice (Lst.row (f := bf) hwt) hwt.2.le (l := 0) (u := t) rfl rfl (by omega) (by omega) fun A64 q64 r64 _ _ _ => ?_
        rw [List.drop_zero, Nat.sub_zero] at r64
        rw [Nat.sub_zero]
        refine Lst.copies (f := bf) sg5.dur (o := o) _ r64 bf_one (by omega) (by omega) (fun h => by rw [if_neg (by omega)]) fun g6 l6 m6 => ?_
        have hUj : U[j]? = some (w.At, w.bs) := by rw [hUw, List.getElem?_map, hx]; rfl
        have hnext : cr fs U D (j + 1) = lay (cr fs U D j) w.At (w.bs.take (amt fs j w.bs.length).toNat) := by
          show (match U[j]? with | some w => lay (cr fs U D j) w.1 (w.2.take (amt fs j w.2.length).toNat) | none => cr fs U D j) = _
          rw [hUj]
        have hl6 : List.take o (cr fs U D j) ++ List.take t w.bs ++ List.drop (o + t) (cr fs U D j) = cr fs U D (j + 1) := by
          rw [hnext, ← hx63, ho]
          have : (List.take t w.bs).length = t := by rw [List.length_take]; omega
          simp [lay, this]
        rw [hl6] at l6
        have hAp : ¬ blkOf A pd := fun hi => sg5.dur.2.ne_blk sg5.blk (by decide) _ hi rfl
        have h56 : ¬ blkOf A p5 := fun hi => hp5 p5 ((hS _).2 (.inr (.inl hi))) rfl
        refine ⟨⟨j + 1, wrap64_id (by omega) (by omega), by omega, ?_, (b5.ext x5).mod m6 h56, ?_⟩, ?_⟩
        · exact mg.trans (x24.mod.trans (x5.mod.trans (m6.mono fun i _ hi => (hS i).2 (.inr (.inl hi)))))
        · exact { sg5 with
            blk := sg5.blk.mod m6 hAp
            dur := l6
            now := sg5.now.mod m6 (fun i hi ha => sg5.dj i ha hi)
            uns := sg5.uns.mod m6 (sg5.uns.2.disj sg5.dur.2 (by decide))
            wts := fun v hv => (sg5.wts v hv).mod m6 (fun i hi => (sg5.dw v hv i hi).1)
            len := by rw [(hcr (j + 1)).1]; exact s.len
            inb := fun v hv => by rw [(hcr (j + 1)).1]; exact s.inb v hv
            byD := (hcr (j + 1)).2
            small := by rw [(hcr (j + 1)).1]; exact s.small }
        · rw [wrap64_id (by omega) (by omega)]
          dsimp only
          omega
      have a7' : At g4 p7 0 w.cells := a7
      obtain h0 | h0 | h0 : (fateOf fs j).1 = 0 ∨ (fateOf fs j).1 = 1 ∨ (fateOf fs j).1 = 2 := by omega
      · rw [h0, indexK_some]
        refine ⟨by omega, by omega, b5.at_.loadS1 0 rfl rfl ⟨_, _, _, rfl, ?_⟩⟩
        refine a7'.loadSN rfl (addrK_of rfl (a8.loadS1 1 rfl rfl (asI_of ?_)))
        refine c21 w _ g4 _ fun g5 x5 => asI_of ⟨x5, by simp, tail 0 g5 x5 ?_⟩
        rw [hat, h0]; rfl
      · rw [h0, indexK_some]
        refine ⟨by omega, by omega, b5.at_.loadS1 1 rfl rfl ⟨_, _, _, rfl, ?_⟩⟩
        refine a7'.loadSN rfl (addrK_of rfl (a8.loadS1 1 rfl rfl (asI_of ?_)))
        refine c22 w _ g4 _ fun g5 x5 => asI_of ⟨x5, by simp, tail w.n g5 x5 ?_⟩
        rw [hat, h0, hwn]; rfl
      · rw [h0, indexK_some]
        refine ⟨by omega, by omega, b5.at_.loadS1 2 rfl rfl ⟨_, _, _, rfl, ?_⟩⟩
        refine a7'.loadSN rfl (addrK_of rfl (a8.loadS1 1 rfl rfl (asI_of ?_)))
        refine c23 w _ g4 _ fun g5 x5 => asI_of ⟨x5, by simp, tail _ g5 x5 ?_⟩
        rw [hat, h0, hwn]; rfl
  · have hju : j = u := by omega
    subst hju
    rw [hUl] at hk
    rw [nilK_some, addrK_mk]
    refine sg.blk.at_.load1 2 rfl rfl (asS_of (draw_ext ?_))
    rw [nilK_some, addrK_mk]
    refine sg.blk.at_.loadS1 1 rfl rfl (asS_of ?_)
    rw [nilK_some, addrK_mk]
    refine sg.blk.at_.loadS1 0 rfl rfl (asS_of ?_)
    have hAl := sg.dur.1
    have hBl := sg.now.1
    have hln := sg.len
    refine Lst.copies (f := bf) sg.now (o := 0) _ (Lst.row (f := bf) sg.dur) bf_one (by omega) (by omega) (fun _ => by cases B <;> simp [Addr.add]) fun g2 l2 m2 => ?_
    have e1 : List.take 0 N ++ cr fs U D j ++ List.drop (0 + n) N = cr fs U D j := by rw [List.drop_of_length_le (by omega)]; simp
    rw [e1] at l2
    have hdB : ¬ blkOf B pd := fun hi => sg.now.2.ne_blk sg.blk (by decide) _ hi rfl
    have hdA : ¬ blkOf A pd := fun hi => sg.dur.2.ne_blk sg.blk (by decide) _ hi rfl
    have b2 := sg.blk.mod m2 hdB
    rw [nilK_some, addrK_mk]
    refine store_blk b2 rfl (by simp) (by simp [OneCells, Value.cells, Value.oneCell']) fun g3 b3 m3 => ?_
    have b3 : Blk g3 pd #[.slice A n c, .slice B m d', .slice none 0 0] 53 := b3
    have hk2 := hk (foot pd A B none []) g3 ⟨A, n, c, B, m, d', none, 0, 0, [], ⟨b3, s.le, (sg.dur.mod m2 s.dj).mod m3 (fun i hi hp => hdA (by rwa [hp] at hi)), l2.mod m3 (fun i hi hp => hdB (by rwa [hp] at hi)), Lst.nil, by simp, rfl, s.dj, by simp, by simp, (hcr _).2, (hcr _).2, by simp, by rw [(hcr _).1]; exact s.small⟩, rfl, fun i => Iff.rfl⟩
    refine hk2 ?_ (mg.trans ((m2.mono fun i _ hi => (hS i).2 (.inr (.inr (.inl hi)))).trans (m3.mono fun i _ hi => (hS i).2 (.inl hi))))
    rintro i (rfl | hi | hi | ⟨_, e, _⟩ | ⟨w, hw, _⟩)
    · exact (hS _).2 (.inl rfl)
    · exact (hS _).2 (.inr (.inl hi))
    · exact (hS _).2 (.inr (.inr (.inl hi)))
    · cases e
    · simp at hw
end
end Go.Proofs.Ytfeodnhklibegaa
