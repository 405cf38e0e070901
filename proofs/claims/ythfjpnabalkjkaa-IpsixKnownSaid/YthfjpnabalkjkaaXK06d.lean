/- What is proved: contracts of functions that the law calls, and of the law itself, over any heap. Conditions stand in each theorem. -/
import Derived.Test.YthfjpnabalkjkaaXK06c
set_option linter.unusedSimpArgs false
set_option linter.unusedVariables false
namespace Go.Proofs.Ythfjpnabalkjkaa
open Go.Oct Go.Oct.L01 Go.Oct.L06
/-- where a reader is -/
def atOf (g : H) (pr : Nat) : Nat := match cellH g ⟨pr, 3, none⟩ with
  | some (.int _ v) => v.toNat
  | _ => 0
theorem RdS.at_of {h0 h : H} {pr : Nat} {A : Option Addr} {n c : Nat} {xs : List Ex} {p : Int} {B : Option Addr} {m d : Nat} {b : List Int} {at_ : Nat} (r : RdS h0 h pr A n c xs p B m d b at_) : atOf h pr = at_ := by
  unfold atOf
  rw [r.blk.cell]
  rfl
section
variable {h : H} {k : Value → H → Prop}
set_option maxHeartbeats 1000000 in
/-- ParseChain -/
theorem c11 (first : Int) (B : Option Addr) (m d : Nat) (b : List Int) (hf : isB first) (hr : RowH h B m (b.map bf).toArray) (hmd : m ≤ d) (hm : m ≤ 1000000) (hb : ∀ x ∈ b, isB x)
    (herr : ∀ e, parse first b = .inr e → ∀ h', Go.Oct.Ext h h' → k (.tuple #[.agg (chv none 0 0 0), .int .i64 0, .int .i64 e]) h')
    (hk : ∀ (A : Option Addr) (n c : Nat) (xs : List Ex) (p : Int) (u : Nat), parse first b = .inl (pairs xs, p, u) → isB p → ∀ h', Go.Oct.Ext h h' → Cx h' h.size A n c xs → k (.tuple #[.agg (chv A n c p), .int .i64 u, .int .i64 0]) h') : callK Try.prog 11 #[.int .u8 first, .slice B m d] h k := by
  refine call11 _ _ _ _ _ _ ?_
  unfold d11
  refine alloc_new fun p4 g1 y1 b1 x1 => ?_
  refine ⟨#[.slice none 0 0, .int .u8 first, .slice B m d, .int .i64 0], by simp [Instr.fill, Value.cells, List.zipIdx, placeL], ?_⟩
  refine alloc_new fun pr g2 y2 b2 x2 => ?_
  have x12 := x1.trans x2
  have z1 := x1.size
  have r0 : RdS h g2 pr none 0 0 [] first B m d b 0 := ⟨x12, b2, by omega, ⟨Lst.nil, by simp, by intro i j v w hv; simp at hv, by simp, by simp, by omega⟩, hr, hmd, by omega, hb, hf, hm⟩
  have b12 := b1.ext x2
  refine ⟨fun b19 x5 x6 g => ∃ (A : Option Addr) (n c : Nat) (xs : List Ex) (p : Int) (u : Nat), RdS h g pr A n c xs p B m d b u ∧ Blk g p4 (List.toArray [.slice none 0 0, .int .u8 0]) 29 ∧ parse first b = .inl (pairs xs, p, u), ?_, ?_⟩
  · refine ⟨fun x5 x6 g => ∃ (A : Option Addr) (n c : Nat) (xs : List Ex) (p : Int) (u f : Nat), RdS h g pr A n c xs p B m d b u ∧ Blk g p4 (List.toArray [.slice none 0 0, .int .u8 0]) 29 ∧ f + n = 17 ∧ parse first b = pc f (pairs xs) p (b.drop u) u, fun x5 x6 g => m - atOf g pr, ⟨none, 0, 0, [], first, 0, 17, r0, b12, rfl, by simp [parse, pairs]⟩, ?_⟩
    rintro x5 x6 g ⟨A, n, c, xs, p, u, f, r, b4, hfn, hp⟩
    have hn16 := r.cx.few
    have hxl : xs.length = n := r.cx.exts.1
    obtain ⟨f, rfl⟩ : ∃ f', f = f' + 1 := ⟨f - 1, by omega⟩
    unfold pc at hp
    have ab := r.blk.at_
    refine nilK_of (addrK_of rfl (addrK_of rfl (ab.load1 1 rfl rfl (asI_of ?_))))
    refine c32 _ _ _ (asB_of ?_)
    refine ifB_of (fun hbe => ?_) (fun hbe => ⟨A, n, c, xs, p, u, r, b4, by rw [hp, if_neg (by rw [hbe]; decide)]⟩)
    rw [if_pos hbe] at hp
    refine c33 r _ (fun e he g3 x3 => asI_of ?_) (fun ex p' sz he A' c' g3 r3 m3 h8 => asI_of ?_)
    · rw [he] at hp
      dsimp only at hp
      have he0 : e ≠ 0 := by rcases one_err he with h1 | h1 <;> omega
      refine ifB_ne (fun _ => ?_) (fun h1 => absurd h1 he0)
      refine store_all (b4.ext x3) rfl (by simp) (by simp [OneCells, Value.oneCell']) fun g4 b5 m5 => ?_
      have b5 : Blk g4 p4 (chv none 0 0 0) 29 := b5
      exact b5.at_.loadN rfl (herr e hp g4 ((r.ext.trans x3).then m5 (fun i hi => by rw [hi]; exact y1)))
    · rw [he] at hp
      dsimp only at hp
      refine ifB_ne (fun h1 => absurd rfl h1) (fun _ => draw_ext ?_)
      have ab3 := r3.blk.at_
      have n4 : ¬ (p4 = pr ∨ blkOf A p4) := by
        rintro (h1 | h1)
        · subst h1; exact absurd (r.blk.inj b4).2 (by decide)
        · exact r.cx.exts.2.ne_blk b4 (by decide) _ h1 rfl
      have b43 := b4.mod m3 n4
      refine nilK_of (addrK_of rfl (addrK_of rfl (ab3.loadS1 0 rfl rfl (asS_of ?_))))
      refine nilK_of (addrK_of rfl (addrK_of rfl (ab3.loadS1 0 rfl rfl (asS_of ?_))))
      have hx : (xs ++ [ex])[n]? = some ex := by rw [← hxl]; simp
      rw [wrap64_id (by omega) (by omega)]
      refine r3.cx.exts.index Ex.len (j := n) (by omega) hx fun b' _ ha => ha.loadSN rfl ?_
      have hpe : pairs (xs ++ [ex]) = pairs xs ++ [ex.pair] := by simp [pairs]
      have oex : ex.ok g3 := (r3.cx.ch hf).ok ex (by simp)
      refine c34 ex oex fun g4 x4 => asB_of ?_
      refine ifB_of (fun hl => ?_) (fun hl => ?_)
      · rw [if_pos hl] at hp
        exact ⟨A', n + 1, c', xs ++ [ex], p', u + sz, r3.grow x4, b43.ext x4, by rw [hp, hpe]⟩
      · rw [if_neg (by rw [hl]; decide), List.drop_drop] at hp
        have r4 := r3.grow x4
        refine ⟨⟨A', n + 1, c', xs ++ [ex], p', u + sz, f, r4, b43.ext x4, by omega, by rw [hp, hpe]⟩, ?_⟩
        show m - atOf g4 pr < m - atOf g pr
        rw [r4.at_of, r.at_of]
        have := r3.at_
        omega
  · rintro b19 x5 x6 g ⟨A, n, c, xs, p, u, r, b4, hp⟩
    have hne : pr ≠ p4 := by rintro rfl; exact absurd (r.blk.inj b4).2 (by decide)
    refine ⟨fun g' => Go.Oct.Mod g g' (· = p4), Go.Oct.Mod.refl _ _, ?_⟩
    have ab := r.blk.at_
    have a2 : At g pr 0 [.slice A n c, .int .u8 p] := fun j v hv => ab j v (by
      have := (List.getElem?_eq_some_iff.1 hv).1
      simp at this
      have : j = 0 ∨ j = 1 := by omega
      rcases this with rfl | rfl <;> exact hv)
    refine nilK_of (addrK_of rfl (At.loadSNm a2 hne rfl ?_))
    refine nilK_of (addrK_of rfl (At.loadS1m ab hne 3 rfl rfl (asI_of ?_)))
    refine store_all b4 rfl (by simp) (by simp [OneCells, Value.oneCell']) fun g4 b5 m5 => ⟨m5, ?_⟩
    have b5 : Blk g4 p4 (chv A n c p) 29 := b5
    refine b5.at_.loadN rfl (hk A n c xs p u hp r.byp g4 (r.ext.then m5 (fun i hi => by rw [hi]; exact y1)) (r.cx.mod m5 (fun i hi => r.cx.exts.2.ne_blk b4 (by decide) i hi) (fun v hv => (r.cx.dat v hv).2.ne_blk b4 (by decide))))
end
end Go.Proofs.Ythfjpnabalkjkaa
