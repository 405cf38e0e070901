/- What is proved: contracts of functions that the law calls, and of the law itself, over any heap. Conditions stand in each theorem. -/
import Derived.Test.YtfeodnhklibegaaXK13p
set_option linter.unusedSimpArgs false
set_option linter.unusedVariables false
namespace Go.Proofs.Ytfeodnhklibegaa
open Go.Oct Go.Oct.L01
/-- what is read of a part, and whether -/
def rdp (z : Nat) (X : List Int) (a m : Int) : List Int := if liesB z a m = true then part X a m else []
def rdn (z : Nat) (a m : Int) : Nat := if liesB z a m = true then m.toNat else 0
def rde (z : Nat) (a m : Int) : Int := if liesB z a m = true then 0 else 130
theorem rdp_isB {z : Nat} {X : List Int} (h : ∀ x ∈ X, isB x) (a m : Int) : ∀ x ∈ rdp z X a m, isB x := by
  unfold rdp
  split
  · exact part_isB h a m
  · simp
theorem rdn_le {z : Nat} {a m : Int} : rdn z a m ≤ z := by
  unfold rdn
  split
  · rename_i h
    have : 0 ≤ a ∧ 0 ≤ m ∧ a ≤ z ∧ m ≤ z - a := by unfold liesB at h; simpa using h
    omega
  · omega
section
variable {h : H} {base pd : Nat} {S : Nat → Prop} {D N : List Int} {U : List (Int × List Int)} {z : Nat}
theorem c12p (d : Dk h base pd S D N U) (hz : D.length = z) (a m : Int) (k : Value → H → Prop) (ha : a ≤ 9223372036854775807) (hk : ∀ A' c' h', Ext h h' → Byt h' h.size A' (rdn z a m) c' (rdp z N a m) → k (.tuple #[.slice A' (rdn z a m) c', .int .i64 (rde z a m)]) h') : callK Try.prog 12 #[.pointer (some ⟨pd, 0, none⟩), .int .i64 a, .int .i64 m] h k := by
  subst hz
  unfold rdn rdp rde at hk
  refine c12 d a m k ha (fun e => ?_) (fun e A' c' h' x l => ?_)
  · have := hk none 0 h (Ext.refl _)
    simp only [e, Bool.false_eq_true, if_false] at this
    exact this Lst.nil
  · have := hk A' c' h' x
    simp only [e, if_true] at this
    exact this l
theorem c15p (d : Dk h base pd S D N U) (hz : D.length = z) (a m : Int) (k : Value → H → Prop) (ha : a ≤ 9223372036854775807) (hk : ∀ A' c' h', Ext h h' → Byt h' h.size A' (rdn z a m) c' (rdp z D a m) → k (.tuple #[.slice A' (rdn z a m) c', .int .i64 (rde z a m)]) h') : callK Try.prog 15 #[.pointer (some ⟨pd, 0, none⟩), .int .i64 a, .int .i64 m] h k := by
  subst hz
  unfold rdn rdp rde at hk
  refine c15 d a m k ha (fun e => ?_) (fun e A' c' h' x l => ?_)
  · have := hk none 0 h (Ext.refl _)
    simp only [e, Bool.false_eq_true, if_false] at this
    exact this Lst.nil
  · have := hk A' c' h' x
    simp only [e, if_true] at this
    exact this l
theorem c39p {L : Option Addr} {n q : Nat} (r : RD h L n D U) (hz : D.length = z) (X : List Int) (hX : X.length = z) (hXb : ∀ x ∈ X, isB x) (a m : Int) (k : Value → H → Prop) (ha : a ≤ 9223372036854775807) (hk : ∀ A' c' h', Ext h h' → Byt h' h.size A' (rdn z a m) c' (rdp z X a m) → k (.tuple #[.slice A' (rdn z a m) c', .int .i64 (rde z a m)]) h') : callK Try.prog 39 #[.agg (rdv D L n q), sv X, .int .i64 a, .int .i64 m] h k := by
  subst hz
  unfold rdn rdp rde at hk
  refine c39 r X hX a m k ha (fun e h' x => ?_) (fun e A' c' h' x l => ?_) hXb
  · have := hk none 0 h' x
    simp only [e, Bool.false_eq_true, if_false] at this
    exact this Lst.nil
  · have := hk A' c' h' x
    simp only [e, if_true] at this
    exact this l
end
/-- a disk, the reference's, and how both began -/
structure DP (h : H) (pd p11 b14 b13 : Nat) (F : Nat → Prop) (z : Nat) (g : H) (S : Nat → Prop) (D N : List Int) (U : List (Int × List Int)) (L : Option Addr) (n q : Nat) : Prop where
  ext : Ext h g
  dk : Dk g h.size pd S D N U
  eq : N = app D U
  rd : RD g L n D U
  k11 : Blk g p11 (rdv D L n q) 66
  k14 : Blk g b14 (rdv (zeros z) none 0 0) 66
  fst : Dk g h.size b13 F (zeros z) (zeros z) []
  len : D.length = z
  y11 : h.size ≤ p11
  dS : ∀ i, S i → i ≠ p11 ∧ i ≠ b14 ∧ ¬ F i
  dL : ∀ i, blkOf L i → i ≠ p11 ∧ ¬ S i
  dF : ¬ F p11
  ne : p11 ≠ b14
section
variable {h : H} {pd p11 b14 b13 : Nat} {F : Nat → Prop} {z : Nat} {g g' : H} {S : Nat → Prop} {D N : List Int} {U : List (Int × List Int)} {L : Option Addr} {n q : Nat}
theorem DP.grow (s : DP h pd p11 b14 b13 F z g S D N U L n q) (x : Ext g g') : DP h pd p11 b14 b13 F z g' S D N U L n q :=
  { s with ext := s.ext.trans x, dk := s.dk.ext x, rd := s.rd.ext x, k11 := s.k11.ext x, k14 := s.k14.ext x, fst := s.fst.ext x }
theorem DP.mod {T : Nat → Prop} (s : DP h pd p11 b14 b13 F z g S D N U L n q) (x : Go.Oct.Mod g g' T) (hT : ∀ i, T i → h.size ≤ i ∧ i ≠ p11 ∧ i ≠ b14 ∧ ¬ F i ∧ ¬ S i ∧ ¬ blkOf L i) : DP h pd p11 b14 b13 F z g' S D N U L n q :=
  { s with
    ext := s.ext.then x (fun i hi => (hT i hi).1)
    dk := s.dk.mod x (fun i hi e => (hT i e).2.2.2.2.1 hi)
    rd := s.rd.mod x (fun i hi e => (hT i e).2.2.2.2.2 hi)
    k11 := s.k11.mod x (fun e => (hT _ e).2.1 rfl)
    k14 := s.k14.mod x (fun e => (hT _ e).2.2.1 rfl)
    fst := s.fst.mod x (fun i hi e => (hT i e).2.2.2.1 hi) }
/-- a call of the disk, and of the reference, and what it says is kept -/
theorem DP.step (s : DP h pd p11 b14 b13 F z g S D N U L n q) {g1 g2 g3 g4 : H} {S' : Nat → Prop} {D' N' : List Int} {U' : List (Int × List Int)} {L' : Option Addr} {n' q' : Nat} (x1 : Ext g g1) (m2 : Go.Oct.Mod g1 g2 S) (d2 : Dk g2 h.size pd S' D' N' U') (hS : ∀ i, S' i → S i ∨ g1.size ≤ i) (x3 : Ext g2 g3) (r3 : RD g3 L' n' D' U')
    (hL : ∀ i, blkOf L' i → blkOf L i ∨ (g.size ≤ i ∧ i < g1.size)) (m4 : Go.Oct.Mod g3 g4 (· = p11)) (k4 : Blk g4 p11 (rdv D' L' n' q') 66) (heq : N' = app D' U') (hlen : D'.length = z) : DP h pd p11 b14 b13 F z g4 S' D' N' U' L' n' q' := by
  have y1 := x1.size
  have hSg : ∀ i, S i → h.size ≤ i ∧ i < g.size := fun i hi => s.dk.base hi
  have dS : ∀ i, S' i → i ≠ p11 ∧ i ≠ b14 ∧ ¬ F i := by
    intro i hi
    rcases hS i hi with h1 | h1
    · exact s.dS i h1
    · have := s.k11.lt
      have := s.k14.lt
      exact ⟨by omega, by omega, fun e => by have := (s.fst.base e).2; omega⟩
  have e2 := (s.ext.trans x1).then m2 (fun i hi => (hSg i hi).1)
  have dL : ∀ i, blkOf L' i → i ≠ p11 ∧ ¬ S' i := by
    intro i hi
    rcases hL i hi with h1 | h1
    · have h2 := s.rd.lt i h1
      refine ⟨(s.dL i h1).1, fun e => ?_⟩
      rcases hS i e with h3 | h3
      · exact (s.dL i h1).2 h3
      · omega
    · refine ⟨by have := s.k11.lt; omega, fun e => ?_⟩
      rcases hS i e with h3 | h3
      · have := (hSg i h3).2; omega
      · omega
  exact {
    ext := (e2.trans x3).then m4 (fun i hi => by subst hi; exact s.y11)
    dk := (d2.ext x3).mod m4 (fun i hi => (dS i hi).1)
    eq := heq
    rd := r3.mod m4 (fun i hi => (dL i hi).1)
    k11 := k4
    k14 := (((s.k14.ext x1).mod m2 (fun e => (s.dS _ e).2.1 rfl)).ext x3).mod m4 (fun e => s.ne e.symm)
    fst := (((s.fst.ext x1).mod m2 (fun i hi e => (s.dS i e).2.2 hi)).ext x3).mod m4 (fun i hi e => s.dF (by rwa [e] at hi))
    len := hlen
    y11 := s.y11
    dS := dS
    dL := dL
    dF := s.dF
    ne := s.ne }
end
/-- two rows are written over -/
theorem bump2 {h : H} {base base' : Nat} {A B : Option Addr} {n c d : Nat} {xs ys : List Int} {rest : H → Prop} (l : Byt h base A n c xs) (l' : Byt h base' B n d ys) (dis : ∀ i, blkOf A i → ¬ blkOf B i) (hn : n ≤ 1099511627776) (hk : ∀ h', Go.Oct.Mod h h' (fun i => blkOf A i ∨ blkOf B i) → rest h') :
    loopK [.int .i64] (fun (kN_3 : Int → H → Prop) (x31 : Int) (h : H) => ifB (decide (x31 < (n : Int))) (indexK 1 A n x31 (fun p226 => load1 p226 h (fun v227 => asI .u8 v227 (fun x227 => indexK 1 A n x31 (fun p229 => storeK 1 p229 (Value.cells (.int .u8 (IntKind.wrap .u8 (x227 + 1)))) h (fun h => indexK 1 B n x31 (fun p232 => load1 p232 h (fun v233 => asI .u8 v233 (fun x233 => indexK 1 B n x31 (fun p235 => storeK 1 p235 (Value.cells (.int .u8 (IntKind.wrap .u8 (x233 + 1)))) h (fun h => kN_3 (IntKind.wrap .i64 (x31 + 1)) h))))))))))) (rest h)) (fun I => I 0 h) := by
  refine ⟨fun x g => ∃ (j : Nat) (xs ys : List Int), x = j ∧ j ≤ n ∧ Byt g base A n c xs ∧ Byt g base' B n d ys ∧ Go.Oct.Mod h g (fun i => blkOf A i ∨ blkOf B i), fun x g => (n - x).toNat, ⟨0, xs, ys, rfl, by omega, l, l', Go.Oct.Mod.refl _ _⟩, ?_⟩
  rintro x g ⟨j, us, vs, rfl, hj, l2, l3, m2⟩
  have hl : us.length = n := l2.1
  have hl3 : vs.length = n := l3.1
  refine ifB_dec (fun hlt => ?_) (fun hge => hk g m2)
  refine row_load l2.row rfl (List.getElem?_eq_getElem (by omega)) (asI_of ?_)
  refine Lst.put (f := bf) l2 rfl (by omega) (IntKind.wrap .u8 (us[j] + 1)) rfl fun g3 l4 m3 => ?_
  have l5 := l3.mod m3 (fun i hi e => dis i e hi)
  refine row_load l5.row rfl (List.getElem?_eq_getElem (by omega)) (asI_of ?_)
  refine Lst.put (f := bf) l5 rfl (by omega) (IntKind.wrap .u8 (vs[j] + 1)) rfl fun g4 l6 m4 => ?_
  refine ⟨⟨j + 1, _, _, wrap64_id (by omega) (by omega), by omega, l4.mod m4 dis, l6, m2.trans ((m3.mono fun i _ hi => .inl hi).trans (m4.mono fun i _ hi => .inr hi))⟩, ?_⟩
  rw [wrap64_id (by omega) (by omega)]
  dsimp only
  omega
/-- the answered writes are written over -/
theorem bumpW {h : H} {base : Nat} {C : Option Addr} {u e : Nat} {ws : List Wt} {U : List (Int × List Int)} {rest : H → Prop} (w : Ws h base C u e ws U) (hu : u ≤ 1099511627776) (hb : ∀ v ∈ ws, v.n ≤ 1099511627776) (hk : ∀ h', Go.Oct.Mod h h' (fun i => base ≤ i) → rest h') :
    loopK [.int .i64] (fun (kN_4 : Int → H → Prop) (x32 : Int) (h : H) => ifB (decide (x32 < (u : Int))) (loopK [.int .i64] (fun (kN_5 : Int → H → Prop) (x33 : Int) (h : H) => indexK 2 C u x32 (fun p245 => addrK p245 1 (fun p246 => load1 p246 h (fun v247 => asS v247 (fun A247 n247 c247 => ifB (decide (x33 < (n247 : Int))) (indexK 2 C u x32 (fun p254 => addrK p254 1 (fun p255 => load1 p255 h (fun v256 => asS v256 (fun A256 n256 c256 => indexK 1 A256 n256 x33 (fun p258 => load1 p258 h (fun v259 => asI .u8 v259 (fun x259 => indexK 1 A256 n256 x33 (fun p261 => storeK 1 p261 (Value.cells (.int .u8 (IntKind.wrap .u8 (x259 + 1)))) h (fun h => kN_5 (IntKind.wrap .i64 (x33 + 1)) h)))))))))) (kN_4 (IntKind.wrap .i64 (x32 + 1)) h)))))) (fun I => I 0 h)) (rest h)) (fun I => I 0 h) := by
  have hul : ws.length = u := w.uns.1
  refine ⟨fun x g => ∃ j : Nat, x = j ∧ j ≤ u ∧ Lst g base 46 Wt.cells 2 C u e ws ∧ (∀ i v, j ≤ i → ws[i]? = some v → Byt g base v.A v.n v.c v.bs) ∧ Go.Oct.Mod h g (fun i => base ≤ i), fun x g => (u - x).toNat, ⟨0, rfl, by omega, w.uns, fun i v _ hv => w.wts v (List.mem_of_getElem? hv), Go.Oct.Mod.refl _ _⟩, ?_⟩
  rintro x g ⟨j, rfl, hj, uns, rows, mg⟩
  refine ifB_dec (fun hlt => ?_) (fun hge => hk g mg)
  have hx : ws[j]? = some ws[j] := List.getElem?_eq_getElem (by omega)
  have hbv := hb _ (List.getElem_mem (show j < ws.length by omega))
  generalize ws[j] = v at *
  have hv := rows j v (Nat.le_refl _) hx
  refine ⟨fun x g' => ∃ (t : Nat) (xs : List Int), x = t ∧ t ≤ v.n ∧ Byt g' base v.A v.n v.c xs ∧ Go.Oct.Mod g g' (blkOf v.A), fun x g' => (v.n - x).toNat, ⟨0, v.bs, rfl, by omega, hv, Go.Oct.Mod.refl _ _⟩, ?_⟩
  rintro x g' ⟨t, xs, rfl, ht, l2, m2⟩
  have hl : xs.length = v.n := l2.1
  have uns2 : Lst g' base 46 Wt.cells 2 C u e ws := uns.mod m2 (uns.2.disj hv.2 (by decide))
  refine uns2.index Wt.len rfl hx fun b _ ha => addrK_of rfl (ha.load1 1 rfl rfl (asS_of ?_))
  refine ifB_dec (fun hlt2 => ?_) (fun hge2 => ?_)
  · refine uns2.index Wt.len rfl hx fun b _ ha => addrK_of rfl (ha.load1 1 rfl rfl (asS_of ?_))
    refine row_load l2.row rfl (List.getElem?_eq_getElem (by omega)) (asI_of ?_)
    refine Lst.put (f := bf) l2 rfl (by omega) (IntKind.wrap .u8 (xs[t] + 1)) rfl fun g4 l4 m4 => ?_
    refine ⟨⟨t + 1, _, wrap64_id (by omega) (by omega), by omega, l4, m2.trans m4⟩, ?_⟩
    rw [wrap64_id (by omega) (by omega)]
    dsimp only
    omega
  · refine ⟨⟨j + 1, wrap64_id (by omega) (by omega), by omega, uns2, fun i v' hi hv' => ?_, mg.trans (m2.mono fun i _ hi => hv.2.base_le hi)⟩, ?_⟩
    · exact (rows i v' (by omega) hv').mod m2 (fun b hb' hbv' => w.dj j i v v' hx hv' (by omega) b hbv' hb')
    · rw [wrap64_id (by omega) (by omega)]
      dsimp only
      omega
end Go.Proofs.Ytfeodnhklibegaa
