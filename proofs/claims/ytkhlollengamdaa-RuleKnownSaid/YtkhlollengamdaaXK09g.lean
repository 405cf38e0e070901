/- What is proved: contracts of functions that the law calls, and of the law itself, over any heap. Conditions stand in each theorem. -/
import Derived.Test.YtkhlollengamdaaXK09f
set_option linter.unusedSimpArgs false
set_option linter.unusedVariables false
namespace Go.Proofs.Ytkhlollengamdaa
open Go.Oct Go.Oct.L09
/-- New's error, and whether it has none -/
def newE (ot : Ru) (xs : List RS) : Int := if xs.length > 64 then 3 else if !ot.right || xs.any (fun r => !r.1.right) then 2 else 0
def othersOf (deny : Bool) (c : Int) : Ru := anyR deny (if deny then 0 else c)
theorem othersOf_ok (deny : Bool) {c : Int} (hc : isL c) : (othersOf deny c).ok := by
  unfold othersOf
  refine anyR_ok _ ?_
  split
  · decide
  · exact hc
structure Cl (h : H) (base p hb : Nat) (A : Option Addr) (n c : Nat) (xs : List RS) (ot : Ru) (hs : List Int) : Prop where
  blk : Blk h p (.slice A n c :: (ot.cells ++ [.slice (some ⟨hb, 0, none⟩) (n + 1) (n + 1)])).toArray 61
  rules : Lst h base 43 RS.cells 44 A n c xs
  hits : Lst h base 62 (fun x => [uf x]) 1 (some ⟨hb, 0, none⟩) (n + 1) (n + 1) hs
  le : base ≤ p
  small : n ≤ 64
  ot : ot.ok
theorem Cl.ext {h h' : H} {base p hb : Nat} {A : Option Addr} {n c : Nat} {xs : List RS} {ot : Ru} {hs : List Int} (s : Cl h base p hb A n c xs ot hs) (x : Go.Oct.Ext h h') : Cl h' base p hb A n c xs ot hs :=
  { s with blk := s.blk.ext x, rules := s.rules.ext x, hits := s.hits.ext x }
theorem Cl.hb_le {h : H} {base p hb : Nat} {A : Option Addr} {n c : Nat} {xs : List RS} {ot : Ru} {hs : List Int} (s : Cl h base p hb A n c xs ot hs) : base ≤ hb := s.hits.2.base_le ⟨_, rfl, rfl⟩
theorem Cl.hb_lt {h : H} {base p hb : Nat} {A : Option Addr} {n c : Nat} {xs : List RS} {ot : Ru} {hs : List Int} (s : Cl h base p hb A n c xs ot hs) : hb < h.size := s.hits.2.lt ⟨_, rfl, rfl⟩
/-- another classifier's hits are put -/
theorem Cl.mod {h h' : H} {base p hb : Nat} {A : Option Addr} {n c : Nat} {xs : List RS} {ot : Ru} {hs : List Int} (s : Cl h base p hb A n c xs ot hs) {b : Nat} {cs : Array Value} (kb : Blk h b cs 62) (hne : b ≠ hb) (m : Go.Oct.Mod h h' (· = b)) : Cl h' base p hb A n c xs ot hs :=
  { s with
    blk := s.blk.mod m (fun e => by
      have kb' := kb
      rw [← e] at kb'
      exact absurd (s.blk.inj kb').2 (by decide))
    rules := s.rules.mod m (fun i hi e => s.rules.2.ne_blk kb (by decide) i hi e)
    hits := s.hits.mod m (by rintro i ⟨_, e, rfl⟩ e2; cases e; exact hne e2.symm) }
theorem rs_zero : (Array.size (Ru.cells (anyR false 0)).toArray) = 44 := rfl
section
variable {h : H} {k : Value → H → Prop}
/-- slices.Clone, of rules -/
theorem c23 {A : Option Addr} {n c : Nat} {xs : List RS} (hr : RowH h A (n * 44) (cellsOf RS.cells xs)) (hn : xs.length = n) (hsm : n ≤ 1000000)
    (hk : ∀ A' c' h', Go.Oct.Ext h h' → Lst h' h.size 43 RS.cells 44 A' n c' xs → k (.slice A' n c') h') : callK Try.prog 23 #[.slice A n c] h k := by
  refine call23 _ _ _ _ _ ?_
  unfold d23
  rw [needK_true rfl]
  cases A with
  | none =>
    have h0 : n = 0 := by
      rcases Nat.eq_zero_or_pos n with h | h
      · exact h
      · obtain ⟨ad, e, _⟩ := hr.2 (by omega)
        cases e
    subst h0
    have hx : xs = [] := List.length_eq_zero_iff.1 hn
    subst hx
    exact hk none 0 h (Go.Oct.Ext.refl _) Lst.nil
  | some ad =>
    refine (show ifB false _ _ from ?_)
    rw [ifB_false]
    refine alloc_new fun b h1 l1 hb e1 => ?_
    have o : Lst h1 h.size 43 RS.cells 44 (some ⟨b, 0, none⟩) 0 0 [] := ⟨rfl, Own.of_blk l1 hb rfl⟩
    refine Lst.joins RS.len RS.one o (hr.ext e1) hn rfl (by decide) e1.size (by omega) fun A' c' h2 l2 m2 d2 => ?_
    rw [Nat.zero_add] at l2 ⊢
    exact hk A' c' h2 (e1.then m2 (by rintro i ⟨ad, e, rfl⟩; cases e; exact l1)) l2
theorem cl_fill {ot : Ru} (o : ot.ok) {A B : Option Addr} {n c m q : Nat} {z : Array Value} (hz : z.size = 46) {k : Array Value → Prop} (hk : k (.slice A n c :: (ot.cells ++ [.slice B m q])).toArray) :
    fillK (placeL [(0, 1), (1, 44), (45, 1)]) z [(0, .slice A n c), (1, .agg ot.cells.toArray), (2, .slice B m q)] k := by
  have hl := Ru.len44 o
  refine ⟨_, ?_, hk⟩
  have hzl : z.toList.length = 46 := by simpa using hz
  obtain ⟨z0, zr, ez⟩ : ∃ z0 zr, z.toList = z0 :: zr := by
    cases hzz : z.toList with
    | nil => rw [hzz] at hzl; cases hzl
    | cons a b => exact ⟨a, b, rfl⟩
  have hzr : zr.length = 45 := by rw [ez] at hzl; simpa using hzl
  have e1 : over z 0 (Value.cells (Value.slice A n c)).toList = ([] ++ ([Value.slice A n c] ++ zr)).toArray := over_mid (pre := []) (mid := [z0]) (post := zr) (by rw [ez]; rfl) rfl
  rw [fill_cons (off := 0) (size := 1) rfl rfl (by omega), e1]
  rw [fill_cons (off := 1) (size := 44) rfl (by simp [Value.cells, hl]) (by simp [hzr])]
  have e2 : over ([] ++ ([Value.slice A n c] ++ zr)).toArray 1 (Value.cells (Value.agg ot.cells.toArray)).toList = ([Value.slice A n c] ++ (ot.cells ++ zr.drop 44)).toArray :=
    over_mid (pre := [.slice A n c]) (mid := zr.take 44) (post := zr.drop 44) (by simp) (by simp [Value.cells, hl, hzr])
  rw [e2]
  rw [fill_cons (off := 45) (size := 1) rfl rfl (by simp [hl, hzr])]
  have e3 : over ([Value.slice A n c] ++ (ot.cells ++ zr.drop 44)).toArray 45 (Value.cells (Value.slice B m q)).toList = (([Value.slice A n c] ++ ot.cells) ++ ([Value.slice B m q] ++ [])).toArray := by
    have := over_mid (cs := ([Value.slice A n c] ++ (ot.cells ++ zr.drop 44)).toArray) (pre := [.slice A n c] ++ ot.cells) (mid := zr.drop 44) (post := []) (vs := [Value.slice B m q]) (by simp) (by simp [hzr])
    rw [List.length_append, hl] at this
    exact this
  rw [e3, fill_nil]
  simp
set_option maxHeartbeats 1000000 in
/-- New -/
theorem c7 {deny : Bool} {cl : Int} (hcl : isL cl) {A : Option Addr} {n c : Nat} {xs : List RS} (hr : n ≤ 64 → RowH h A (n * 44) (cellsOf RS.cells xs)) (hn : xs.length = n)
    (hno : newE (othersOf deny cl) xs ≠ 0 → ∀ h', Go.Oct.Ext h h' → k (.tuple #[.pointer none, .int .i64 (newE (othersOf deny cl) xs)]) h')
    (hk : newE (othersOf deny cl) xs = 0 → ∀ p hb A' c' h', Go.Oct.Ext h h' → Cl h' h.size p hb A' n c' xs (othersOf deny cl) (List.replicate (n + 1) 0) → k (.tuple #[.pointer (some ⟨p, 0, none⟩), .int .i64 0]) h') : callK Try.prog 7 #[.bool deny, .int .i64 cl, .slice A n c] h k := by
  refine call7 _ _ _ _ _ _ _ ?_
  unfold d7
  refine c10 fun g1 x1 => asA_of rfl ?_
  refine newVr rfl rfl (Ru.one _) fun p8 g2 y2 b8 x2 => ?_
  have oo := othersOf_ok deny hcl
  have one1 : ∀ v : Value, v.oneCell' = true → v.cells = #[v] → OneCells v.cells.toList := by
    intro v hv hc w hw
    rw [hc] at hw
    simp at hw
    rw [hw]; exact hv
  refine addrK_of rfl (store_blk b8 rfl (by decide) (one1 _ rfl rfl) fun g3 b8 m3 => ?_)
  refine addrK_of rfl (store_blk b8 rfl (by rw [over_size]; decide) (one1 _ rfl rfl) fun g4 b8 m4 => ?_)
  have b8 : Blk g4 p8 (anyR deny cl).cells.toArray 43 := b8
  have y8 : h.size ≤ p8 := by have := x1.size; omega
  have f8 : ∀ i, i = p8 → h.size ≤ i := by rintro i rfl; exact y8
  have x4 : Go.Oct.Ext h g4 := ((x1.trans x2).then m3 f8).then m4 f8
  refine ⟨fun b g => Go.Oct.Ext h g ∧ Blk g p8 (othersOf deny cl).cells.toArray 43, ?_, ?_⟩
  · refine ifB_of (fun h1 => ?_) (fun h1 => ⟨x4, ?_⟩)
    · refine addrK_of rfl (store_blk b8 rfl (show 0 + 43 + 1 ≤ 44 by decide) (one1 _ rfl rfl) fun g5 b8 m5 => ⟨x4.then m5 f8, ?_⟩)
      rw [h1] at b8 ⊢
      exact b8
    · rw [h1] at b8 ⊢
      exact b8
  rintro b14 g5 ⟨x5, k8⟩
  have hll := Ru.len44 oo
  refine ifB_dec (fun h1 => ?_) (fun h1 => ?_)
  · have : newE (othersOf deny cl) xs = 3 := by unfold newE; rw [if_pos (by omega)]
    rw [this] at hno
    exact hno (by decide) g5 x5
  have hr := hr (by omega)
  have hnE : newE (othersOf deny cl) xs = if !(othersOf deny cl).right || xs.any (fun r => !r.1.right) then 2 else 0 := by unfold newE; rw [if_neg (by omega)]
  generalize othersOf deny cl = ot at *
  refine ⟨fun b g => Go.Oct.Ext g5 g ∧ b = (!ot.right || xs.any (fun r => !r.1.right)), ?_, ?_⟩
  · refine k8.at_.loadN hll ?_
    refine c20 oo fun g6 x6 => asB_of ?_
    refine ifB_of (fun h2 => ⟨x6, ?_⟩) (fun h2 => ?_)
    · rw [h2]; rfl
    · rw [h2, Bool.false_or]
      refine c21 (hr.ext (x5.trans x6)) hn (by omega) (pr := fun r => !r.1.right) (fun x hx g k eg hk' => ?_) fun g7 x7 => asB_of ⟨x6.trans x7, rfl⟩
      exact c22 x.2 hk'
  rintro b20 g6 ⟨x6, rfl⟩
  have x06 := x5.trans x6
  refine ifB_of (fun h2 => ?_) (fun h2 => ?_)
  · rw [h2, if_pos rfl] at hnE
    rw [hnE] at hno
    exact hno (by decide) g6 x06
  rw [h2, if_neg (by decide)] at hnE
  have hk := hk hnE
  refine draw_ext ((k8.ext x6).at_.loadSN hll ⟨?_, ?_⟩)
  · refine c23 (hr.ext x06) hn (by omega) fun A29 c29 g7 x7 l7 => asS_of ⟨x7, ?_⟩
    refine made_one (f := uf) (z := 0) (m := n + 1) (wrap64_id (by omega) (by omega)) (by omega) (by omega) fun hb g8 l8 y8 x8 => ⟨x7.trans x8, ?_⟩
    refine cl_fill oo rfl (alloc_new fun p36 g9 y9 b9 x9 => ?_)
    have z1 := x06.size
    have z7 := x7.size
    have z8 := x8.size
    refine hk p36 hb A29 c29 g9 (x06.trans (x7.trans (x8.trans x9))) ⟨b9, ⟨l7.1, (l7.2.weaken z1).ext (x8.trans x9)⟩, ⟨l8.1, (l8.2.weaken (by omega)).ext x9⟩, by omega, by omega, oo⟩
  · refine made_one (f := uf) (z := 0) (m := n + 1) (wrap64_id (by omega) (by omega)) (by omega) (by omega) fun hb g7 l7 y7 x7 => ⟨x7, ?_⟩
    refine c23 (hr.ext (x06.trans x7)) hn (by omega) fun A29 c29 g8 x8 l8 => asS_of ⟨x7.trans x8, ?_⟩
    refine cl_fill oo rfl (alloc_new fun p36 g9 y9 b9 x9 => ?_)
    have z1 := x06.size
    have z7 := x7.size
    have z8 := x8.size
    refine hk p36 hb A29 c29 g9 (x06.trans (x7.trans (x8.trans x9))) ⟨b9, ⟨l8.1, (l8.2.weaken (by omega)).ext x9⟩, ⟨l7.1, (l7.2.weaken z1).ext (x8.trans x9)⟩, by omega, by omega, oo⟩
end
end Go.Proofs.Ytkhlollengamdaa
