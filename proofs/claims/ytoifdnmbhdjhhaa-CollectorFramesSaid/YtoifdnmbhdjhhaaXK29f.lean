/- What is proved: contracts of functions that the law calls, and of the law itself, over any heap. Conditions stand in each theorem. -/
import Derived.Test.YtoifdnmbhdjhhaaXK29q
set_option linter.unusedSimpArgs false
set_option linter.unusedVariables false
namespace Go.Proofs.Ytoifdnmbhdjhhaa
open Go.Oct Go.Oct.L01

def pE (bs : List Int) : Int := num bs 1 4
def pN (bs : List Int) : Int := num bs 5 8
def pP (bs : List Int) : Int := num bs 13 4
def pOk (bs : List Int) : Bool := okN bs 1 && mayB (pE bs) (pN bs) (pP bs)
def zeroE : Array Value := ent 0 0 0 (.slice none 0 0)
def aOk (bs : List Int) : Bool := decide (bs.length = 17 ∧ num bs 0 1 = 2)
theorem wrap32 {bs : List Int} (hb : ∀ x ∈ bs, isB x) {a : Int} (ha : 0 ≤ a) (hl : a + 4 ≤ bs.length) : IntKind.wrap .u32 (num bs a 4) = num bs a 4 ∧ u32B (num bs a 4) := by
  have h := num_range hb (s := 4) (by omega) ha hl
  have e : (256 : Int) ^ Int.toNat 4 = 4294967296 := by decide
  rw [e] at h
  exact ⟨by rw [IntKind.wrap_u32]; omega, h⟩
theorem num64 {bs : List Int} (hb : ∀ x ∈ bs, isB x) {a : Int} (ha : 0 ≤ a) (hl : a + 8 ≤ bs.length) : u64B (num bs a 8) := by
  have h := num_range hb (s := 8) (by omega) ha hl
  have e : (256 : Int) ^ Int.toNat 8 = 18446744073709551616 := by decide
  rw [e] at h
  exact h

/-- get -/
theorem c29 (A : Option Addr) (n c : Nat) (bs : List Int) (a s : Int) (h : H) (k : Value → H → Prop) (hr : RowH h A n (bs.map bf).toArray) (hc : n ≤ c) (hn : n ≤ 4096) (hb : ∀ x ∈ bs, isB x) (ha : 0 ≤ a) (ha2 : a ≤ 4096) (h1 : 1 ≤ s) (h8 : s ≤ 8) (hl : a + s ≤ n)
    (hk : k (.int .u64 (num bs a s)) h) : callK Try.prog 29 #[.slice A n c, .int .i64 a, .int .i64 s] h k := by
  refine call29 _ _ _ _ _ _ _ ?_
  unfold d29
  have hbl : bs.length = n := by simpa using hr.1
  refine c36 A n c bs a s h _ hr hc (by omega) (by omega) hb (asT2_of (asI_of (asI_of ?_)))
  rw [getR_num ha h1 h8, if_neg (by omega)]
  exact hk

/-- the reference's ParseData -/
theorem c10 (A : Option Addr) (n c : Nat) (bs : List Int) (h : H) (k : Value → H → Prop) (hr : RowH h A n (bs.map bf).toArray) (hc : n ≤ c) (hn : n ≤ 4096) (hb : ∀ x ∈ bs, isB x)
    (hno : pOk bs = false → ∀ h', Ext h h' → k (.tuple #[.agg zeroE, .int .i64 290]) h')
    (hk : pOk bs = true → ∀ A' c' h', Ext h h' → Byt h' h.size A' (n - 17) c' (bs.drop 17) → k (.tuple #[.agg (ent (pE bs) (pN bs) (pP bs) (.slice A' (n - 17) c')), .int .i64 0]) h') : callK Try.prog 10 #[.slice A n c] h k := by
  refine call10 _ _ _ _ _ ?_
  unfold d10
  have hl : bs.length = n := by simpa using hr.1
  refine alloc_new fun p2 h1 y2 b2 e1 => ?_
  have fail : pOk bs = false → ∀ g, Ext h g → Blk g p2 zeroE 37 → storeK 4 (some ⟨p2, 0, none⟩) (List.toArray [.int .u32 0, .int .u64 0, .int .u32 0, .slice none 0 0]) g (fun h => loadN 4 (some ⟨p2, 0, none⟩) h (fun c2 => k (.tuple #[(.agg c2), (.int .i64 290)]) h)) := by
    intro hf g eg bg
    refine store_blk bg rfl (by simp [zeroE, ent]) (by simp [OneCells, Value.oneCell']) fun g' bg' m => ?_
    refine bg'.at_.loadN (by simp [over, zeroE, ent]) ?_
    simp only [over, zeroE, ent]
    exact hno hf g' (eg.then m (fun i hi => by omega))
  refine ⟨fun b g => g = h1 ∧ b = !okN bs 1, ?_, ?_⟩
  · refine ifB_dec (fun h17 => ⟨rfl, ?_⟩) (fun h17 => ?_)
    · unfold okN; rw [decide_eq_false (by omega)]; rfl
    · refine row_load (hr.ext e1) (j := 0) rfl (List.getElem?_eq_getElem (by omega)) (asI_of ⟨rfl, ?_⟩)
      have e0 : num bs 0 1 = bs[0] := num_one (by omega)
      unfold okN
      rw [e0, bne_dec]
      by_cases hb1 : bs[0] = 1
      · simp [hb1]; omega
      · simp [hb1]
  rintro b g ⟨rfl, hbk⟩
  refine ifB_of (fun e => fail (by unfold pOk; rw [hbk] at e; simp at e; rw [e]; rfl) g e1 b2) (fun e => ?_)
  have hok : okN bs 1 = true := by rw [hbk] at e; simpa using e
  have h17 : 17 ≤ n := by unfold okN at hok; simp at hok; omega
  refine c29 A n c bs 1 4 g _ (hr.ext e1) hc hn hb (by omega) (by omega) (by omega) (by omega) (by omega) (asI_of ?_)
  refine c29 A n c bs 5 8 g _ (hr.ext e1) hc hn hb (by omega) (by omega) (by omega) (by omega) (by omega) (asI_of ?_)
  refine c29 A n c bs 13 4 g _ (hr.ext e1) hc hn hb (by omega) (by omega) (by omega) (by omega) (by omega) (asI_of ?_)
  rw [(wrap32 hb (a := 1) (by omega) (by omega)).1, (wrap32 hb (a := 13) (by omega) (by omega)).1]
  refine alloc_new fun p4 g2 y4 b4 e2 => ?_
  refine store_blk b4 rfl (by simp) (by simp [OneCells, Value.oneCell']) fun g3 b3 m3 => ?_
  have e3 : Ext g g3 := e2.then m3 (fun i hi => by omega)
  have b3 : Blk g3 p4 (ent (pE bs) (pN bs) (pP bs) (.slice none 0 0)) 37 := b3
  refine b3.at_.loadN rfl ?_
  refine c26 (pE bs) (pN bs) (pP bs) _ g3 _ fun g4 e4 => asB_of ?_
  have x4 := e1.trans (e3.trans e4)
  have b2 := b2.ext (e3.trans e4)
  refine ifB_of (fun hm => fail (by unfold pOk; simp at hm; rw [hm]; simp) g4 x4 b2) (fun hm => ?_)
  have hp : pOk bs = true := by unfold pOk; simp at hm; rw [hm, hok]; rfl
  rw [needK_true (by simp)]
  refine row_slice (hr.ext x4) hc (l := 17) (u := n) rfl rfl (by omega) (by omega) fun A5 q5 r5 _ _ _ => ?_
  rw [List.take_of_length_le (by rw [List.length_drop]; omega)] at r5
  refine c27 none 0 0 [] A5 (n - 17) q5 _ g4 _ RowH.nil r5 (by omega) fun A6 q6 g6 e6 l6 => asS_of ?_
  rw [Nat.zero_add, List.nil_append] at *
  have b4 := b3.ext (e4.trans e6)
  have b2 := b2.ext e6
  have h42 : p4 ≠ p2 := by have := b2.lt; have h3 : p2 < g.size := (Blk.lt (h := g) (by assumption : Blk g p2 _ _)); omega
  refine addrK_of rfl ?_
  refine store_blk b4 rfl (by simp [ent]) (by simp [OneCells, Value.cells, Value.oneCell']) fun g7 b7 m7 => ?_
  have b7 : Blk g7 p4 (ent (pE bs) (pN bs) (pP bs) (.slice A6 (n - 17) q6)) 37 := b7
  have b2 := b2.mod m7 (fun e => h42 e.symm)
  have l7 := l6.mod m7 (fun i hi e => by have h1 := l6.2.base_le hi; have h2 := (b3.ext e4).lt; omega)
  refine b7.at_.loadN rfl ?_
  refine store_blk b2 rfl (by simp [ent]) (by simp [OneCells, ent, Value.oneCell']) fun g8 b8 m8 => ?_
  have b8 : Blk g8 p2 (ent (pE bs) (pN bs) (pP bs) (.slice A6 (n - 17) q6)) 37 := b8
  have hs1 := e1.size
  have l8 := l7.mod m8 (fun i hi e => by have h1 := l7.2.base_le hi; have h2 : p2 < g.size := (Blk.lt (h := g) (by assumption : Blk g p2 _ _)); have := (e3.trans e4).size; omega)
  refine b8.at_.loadN rfl ?_
  exact hk hp A6 q6 g8 (((x4.trans e6).then m7 (fun i hi => by omega)).then m8 (fun i hi => by omega)) (Lst.weaken l8 x4.size)
end Go.Proofs.Ytoifdnmbhdjhhaa
