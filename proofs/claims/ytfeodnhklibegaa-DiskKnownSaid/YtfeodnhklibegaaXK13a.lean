/- What is proved: contracts of functions that the law calls, and of the law itself, over any heap. Conditions stand in each theorem. -/
import Derived.Test.YtfeodnhklibegaaXKB13
set_option linter.unusedSimpArgs false
set_option linter.unusedVariables false
namespace Go.Proofs.Ytfeodnhklibegaa
open Go.Oct Go.Oct.L01

/-- an unsynced write -/
structure Wt where
  At : Int
  A : Option Addr
  n : Nat
  c : Nat
  bs : List Int
def Wt.cells (w : Wt) : List Value := [.int .i64 w.At, .slice w.A w.n w.c]
theorem Wt.len (w : Wt) : w.cells.length = 2 := rfl
theorem Wt.one (w : Wt) : OneCells w.cells := by simp [OneCells, Wt.cells, Value.oneCell']
/-- a disk, in parts -/
structure DkS (h : H) (base pd : Nat) (A : Option Addr) (n c : Nat) (B : Option Addr) (m d : Nat) (C : Option Addr) (u e : Nat) (ws : List Wt) (D N : List Int) : Prop where
  blk : Blk h pd #[.slice A n c, .slice B m d, .slice C u e] 53
  le : base ≤ pd
  dur : Byt h base A n c D
  now : Byt h base B m d N
  uns : Lst h base 46 Wt.cells 2 C u e ws
  wts : ∀ w ∈ ws, Byt h base w.A w.n w.c w.bs
  len : N.length = D.length
  dj : ∀ i, blkOf A i → ¬ blkOf B i
  dw : ∀ w ∈ ws, ∀ i, blkOf w.A i → ¬ blkOf A i ∧ ¬ blkOf B i
  inb : ∀ w ∈ ws, 0 ≤ w.At ∧ w.At + w.bs.length ≤ D.length
  byD : ∀ x ∈ D, isB x
  byN : ∀ x ∈ N, isB x
  byW : ∀ w ∈ ws, ∀ x ∈ w.bs, isB x
  small : D.length ≤ 65536
def foot (pd : Nat) (A B C : Option Addr) (ws : List Wt) (i : Nat) : Prop := i = pd ∨ blkOf A i ∨ blkOf B i ∨ blkOf C i ∨ ∃ w ∈ ws, blkOf w.A i
/-- a disk: S are the blocks that are its own -/
def Dk (h : H) (base pd : Nat) (S : Nat → Prop) (D N : List Int) (U : List (Int × List Int)) : Prop :=
  ∃ A n c B m d C u e ws, DkS h base pd A n c B m d C u e ws D N ∧ U = ws.map (fun w => (w.At, w.bs)) ∧ ∀ i, S i ↔ foot pd A B C ws i

theorem DkS.base {h : H} {base pd : Nat} {A : Option Addr} {n c : Nat} {B : Option Addr} {m d : Nat} {C : Option Addr} {u e : Nat} {ws : List Wt} {D N : List Int} (s : DkS h base pd A n c B m d C u e ws D N) {i : Nat} (hi : foot pd A B C ws i) : base ≤ i ∧ i < h.size := by
  rcases hi with rfl | hi | hi | hi | ⟨w, hw, hi⟩
  · exact ⟨s.le, s.blk.lt⟩
  · exact ⟨s.dur.2.base_le hi, s.dur.2.lt hi⟩
  · exact ⟨s.now.2.base_le hi, s.now.2.lt hi⟩
  · exact ⟨s.uns.2.base_le hi, s.uns.2.lt hi⟩
  · exact ⟨(s.wts w hw).2.base_le hi, (s.wts w hw).2.lt hi⟩
theorem DkS.mod {h h' : H} {T : Nat → Prop} {base pd : Nat} {A : Option Addr} {n c : Nat} {B : Option Addr} {m d : Nat} {C : Option Addr} {u e : Nat} {ws : List Wt} {D N : List Int} (s : DkS h base pd A n c B m d C u e ws D N) (x : Go.Oct.Mod h h' T) (ht : ∀ i, foot pd A B C ws i → ¬ T i) :
    DkS h' base pd A n c B m d C u e ws D N :=
  { s with
    blk := s.blk.mod x (ht _ (.inl rfl))
    dur := s.dur.mod x (fun i hi => ht i (.inr (.inl hi)))
    now := s.now.mod x (fun i hi => ht i (.inr (.inr (.inl hi))))
    uns := s.uns.mod x (fun i hi => ht i (.inr (.inr (.inr (.inl hi)))))
    wts := fun w hw => (s.wts w hw).mod x (fun i hi => ht i (.inr (.inr (.inr (.inr ⟨w, hw, hi⟩))))) }
theorem Dk.base {h : H} {base pd : Nat} {S : Nat → Prop} {D N : List Int} {U : List (Int × List Int)} (k : Dk h base pd S D N U) {i : Nat} (hi : S i) : base ≤ i ∧ i < h.size := by
  obtain ⟨A, n, c, B, m, d, C, u, e, ws, s, _, hS⟩ := k
  exact s.base ((hS i).1 hi)
theorem Dk.mod {h h' : H} {T : Nat → Prop} {base pd : Nat} {S : Nat → Prop} {D N : List Int} {U : List (Int × List Int)} (k : Dk h base pd S D N U) (x : Go.Oct.Mod h h' T) (ht : ∀ i, S i → ¬ T i) : Dk h' base pd S D N U := by
  obtain ⟨A, n, c, B, m, d, C, u, e, ws, s, hU, hS⟩ := k
  exact ⟨A, n, c, B, m, d, C, u, e, ws, s.mod x (fun i hi => ht i ((hS i).2 hi)), hU, hS⟩
theorem Dk.ext {h h' : H} {base pd : Nat} {S : Nat → Prop} {D N : List Int} {U : List (Int × List Int)} (k : Dk h base pd S D N U) (x : Ext h h') : Dk h' base pd S D N U := k.mod x (fun _ _ e => e)

def zeros (n : Nat) : List Int := List.replicate n 0
theorem zeros_isB (n : Nat) : ∀ x ∈ zeros n, isB x := by
  intro x hx
  rw [(List.mem_replicate.1 hx).2]
  decide

/-- New -/
theorem c9 (x : Int) (h : H) (k : Value → H → Prop) (hneg : x < 0 → k (.tuple #[.pointer none, .int .i64 2]) h) (hbig : 65536 < x → k (.tuple #[.pointer none, .int .i64 3]) h)
    (hk : 0 ≤ x → x ≤ 65536 → ∀ pd S h', Ext h h' → Dk h' h.size pd S (zeros x.toNat) (zeros x.toNat) [] → k (.tuple #[.pointer (some ⟨pd, 0, none⟩), .int .i64 0]) h') : callK Try.prog 9 #[.int .i64 x] h k := by
  refine call9 _ _ _ ?_
  unfold d9
  refine ifB_dec hneg (fun h0 => ifB_dec (fun h1 => hbig (by omega)) (fun h1 => draw_ext ?_))
  obtain ⟨n, rfl⟩ := Int.eq_ofNat_of_zero_le (show 0 ≤ x by omega)
  have fin : ∀ (A B : Option Addr) g, Ext h g → Byt g h.size A n n (zeros n) → Byt g h.size B n n (zeros n) → (∀ i, blkOf A i → ¬ blkOf B i) →
      allocK (List.toArray [(.slice A n n), (.slice B n n), .slice none 0 0]) 53 g (fun p15 h => k (.tuple #[(.pointer p15), (.int .i64 0)]) h) := by
    intro A B g eg lA lB dj
    refine alloc_new fun p g' lp bp x => ?_
    refine hk (by omega) (by omega) p _ g' (eg.trans x) ⟨A, n, n, B, n, n, none, 0, 0, [], ⟨bp, Nat.le_trans eg.size lp, ?_, ?_, Lst.nil, by simp, rfl, dj, by simp, by simp, ?_, ?_, by simp, ?_⟩, rfl, fun i => Iff.rfl⟩
    · simpa [Byt] using lA.ext x
    · simpa [Byt] using lB.ext x
    · exact zeros_isB _
    · exact zeros_isB _
    · simp [zeros]; omega
  constructor
  · refine made_one (f := bf) (z := 0) rfl (by omega) (by omega) fun b1 g1 l1 y1 x1 => ⟨x1, ?_⟩
    refine made_one (f := bf) (z := 0) rfl (by omega) (by omega) fun b2 g2 l2 y2 x2 => ⟨x1.trans x2, ?_⟩
    refine fin _ _ g2 (x1.trans x2) (l1.ext x2) (Lst.weaken l2 x1.size) ?_
    intro i hi hj
    have h1 := l1.2.lt hi
    have h2 := l2.2.base_le hj
    omega
  · refine made_one (f := bf) (z := 0) rfl (by omega) (by omega) fun b1 g1 l1 y1 x1 => ⟨x1, ?_⟩
    refine made_one (f := bf) (z := 0) rfl (by omega) (by omega) fun b2 g2 l2 y2 x2 => ⟨x1.trans x2, ?_⟩
    refine fin _ _ g2 (x1.trans x2) (Lst.weaken l2 x1.size) (l1.ext x2) ?_
    intro i hi hj
    have h1 := l1.2.lt hj
    have h2 := l2.2.base_le hi
    omega
end Go.Proofs.Ytfeodnhklibegaa
