/- What is proved: contracts of functions that the law calls, and of the law itself, over any heap. Conditions stand in each theorem. -/
import Derived.Test.YtoifdnmbhdjhhaaXK29d
set_option linter.unusedSimpArgs false
set_option linter.unusedVariables false
namespace Go.Proofs.Ytoifdnmbhdjhhaa
open Go.Oct Go.Oct.L01

/-- the number of s bytes at a place -/
def num (bs : List Int) (a s : Int) : Int := val ((bs.drop a.toNat).take s.toNat)
theorem getR_num {bs : List Int} {a s : Int} (ha : 0 ≤ a) (h1 : 1 ≤ s) (h8 : s ≤ 8) : getR bs a s = if (bs.length : Int) < a + s then (0, 10) else (num bs a s, 0) := by
  unfold getR
  rw [if_neg (by omega)]
  rfl
theorem num_range {bs : List Int} (hb : ∀ x ∈ bs, isB x) {a s : Int} (h1 : 1 ≤ s) (ha : 0 ≤ a) (hl : a + s ≤ bs.length) : 0 ≤ num bs a s ∧ num bs a s < 256 ^ s.toNat :=
  val_bound s.toNat _ (by rw [List.length_take, List.length_drop]; omega) fun x hx => hb x (List.mem_of_mem_drop (List.mem_of_mem_take hx))
theorem num_one {bs : List Int} (h : 0 < bs.length) : num bs 0 1 = bs[0] := by
  cases bs with
  | nil => simp at h
  | cons x r => simp [num, val]
def okN (bs : List Int) (kind : Int) : Bool := decide (17 ≤ bs.length ∧ num bs 0 1 = kind)
def l3 (a b c : Int) : Array Value := #[.int .u64 a, .int .u64 b, .int .u64 c]
theorem l3_one (a b c : Int) : OneCells (l3 a b c).toList := by simp [OneCells, l3, Value.oneCell']

theorem ret3 {g : H} {p a b c : Int} {q : Nat} (hb : Blk g q (l3 a b c) 79) {K : Array Value → H → Prop} (hk : ∀ g', Go.Oct.Mod g g' (· = q) → K (l3 a b c) g') :
    loadN 3 (some ⟨q, 0, none⟩) g (fun x => storeK 3 (some ⟨q, 0, none⟩) x g (fun h => loadN 3 (some ⟨q, 0, none⟩) h (fun y => K y h))) := by
  refine hb.at_.loadN rfl ?_
  refine store_blk hb rfl (by simp [l3]) (l3_one a b c) fun g' hb' m => ?_
  have : over (l3 a b c) 0 (l3 a b c).toList = l3 a b c := rfl
  have h0 : (l3 a b c).toList.toArray = l3 a b c := rfl
  rw [h0, this] at hb'
  exact hb'.at_.loadN rfl (hk g' m)
/-- numbers -/
theorem c34 (A : Option Addr) (n c : Nat) (bs : List Int) (kind s0 s1 s2 : Int) (h : H) (k : Value → H → Prop) (hr : RowH h A n (bs.map bf).toArray) (hn : n ≤ 4096) (hb : ∀ x ∈ bs, isB x)
    (k0 : 1 ≤ s0 ∧ s0 ≤ 8) (k1 : 1 ≤ s1 ∧ s1 ≤ 8) (k2 : 1 ≤ s2 ∧ s2 ≤ 8) (ks : s0 + s1 + s2 = 16)
    (hno : okN bs kind = false → ∀ a b c h', Ext h h' → k (.tuple #[.agg (l3 a b c), .bool false]) h')
    (hk : okN bs kind = true → ∀ h', Ext h h' → k (.tuple #[.agg (l3 (num bs 1 s0) (num bs (1 + s0) s1) (num bs (1 + s0 + s1) s2)), .bool true]) h') :
    callK Try.prog 34 #[.slice A n c, .int .u64 kind, .agg #[.int .i64 s0, .int .i64 s1, .int .i64 s2]] h k := by
  refine call34 _ _ _ _ _ _ _ ?_
  unfold d34
  have hl : bs.length = n := by simpa using hr.1
  refine alloc_new fun p5 h1 _ b5 e1 => alloc_new fun p6 h2 l6 b6 e2 => ?_
  have e12 := e1.trans e2
  have hp6 := b6.lt
  have hy6 := e1.size
  have b5 := b5.ext e2
  refine c39 A n c bs h2 _ (hr.ext e12) (by omega) fun pr A3 q3 h3 e3 r3 => asP_of ?_
  have b5 := b5.ext e3
  have b6 := b6.ext e3
  have e13 := e12.trans e3
  have h56 : p5 ≠ p6 := by rintro rfl; have := (b5.inj b6).2; revert this; decide
  have hle2 := e12.size
  refine c40 h2.size pr A3 n q3 bs 0 1 h3 _ r3 hb fun h4 r4 m4 => asT2_of (asI_of (asI_of ?_))
  have hr4 := r3.le
  have b5 := b5.mod m4 (fun e => by have := e1.size; have h1 := b5.lt; have h2 := (Blk.lt (h := h2) (by assumption : Blk h2 p5 _ _)); omega)
  have b6 := b6.mod m4 (fun e => by omega)
  have e14 := e13.then m4 (fun i hi => by omega)
  rw [getR_num (by omega) (by omega) (by omega)] at r4 ⊢
  have fin0 : okN bs kind = false → ∀ (a b c : Int) g, Ext h g → Blk g p6 (l3 a b c) 79 → loadN 3 (some ⟨p6, 0, none⟩) g (fun x => storeK 3 (some ⟨p6, 0, none⟩) x g (fun h => loadN 3 (some ⟨p6, 0, none⟩) h (fun y => k (.tuple #[(.agg y), (.bool false)]) h))) := by
    intro hf a b c g eg bg
    exact ret3 (p := 0) bg fun g' m => hno hf a b c g' (eg.then m (fun i hi => by omega))
  have b6' : Blk h4 p6 (l3 0 0 0) 79 := b6
  have hl1 : 0 < bs.length → num bs 0 1 = bs[0]?.getD 0 := fun hp => by rw [num_one hp]; simp [hp]
  refine ⟨fun b g => g = h4 ∧ (b = true → okN bs kind = false) ∧ (b = false → 1 ≤ n ∧ num bs 0 1 = kind), ?_, ?_⟩
  · by_cases hlt : (bs.length : Int) < 0 + 1
    · rw [if_pos hlt]
      exact ifB_ne (fun _ => ⟨rfl, fun _ => by unfold okN; rw [decide_eq_false]; omega, fun e => by cases e⟩) (fun e => absurd e (by decide))
    · rw [if_neg hlt]
      refine ifB_ne (fun e => absurd rfl e) (fun _ => ⟨rfl, fun e => ?_, fun e => ⟨by omega, by simpa using e⟩⟩)
      unfold okN
      rw [decide_eq_false]
      rintro ⟨_, e'⟩
      rw [e'] at e
      simp at e
  rintro b g ⟨rfl, hbt, hbf⟩
  refine ifB_of (fun e => fin0 (hbt e) 0 0 0 g e14 b6') (fun e => ?_)
  obtain ⟨hn1, hkd⟩ := hbf e
  rw [if_neg (show ¬ (bs.length : Int) < 0 + 1 by omega), if_pos rfl] at r4
  have ok17 : okN bs kind = decide (17 ≤ n) := by unfold okN; rw [hl]; simp [hkd]
  refine b5.at_.loadN rfl ?_
  refine ⟨fun b x g' => 0 ≤ x ∧ x ≤ 3 ∧ Ext h g' ∧ ∃ a b c : Int, Blk g' p6 (l3 a b c) 79 ∧ Rd g' h2.size pr A3 n q3 bs (if x = 0 then 1 else if x = 1 then 1 + s0 else if x = 2 then 1 + s0 + s1 else 17) ∧
      (1 ≤ x → a = num bs 1 s0) ∧ (2 ≤ x → b = num bs (1 + s0) s1) ∧ (3 ≤ x → c = num bs (1 + s0 + s1) s2), fun b x g' => (3 - x).toNat,
    ⟨by omega, by omega, e14, 0, 0, 0, b6', by simpa using r4, by omega, by omega, by omega⟩, ?_⟩
  rintro b7 x g1 ⟨hx0, hx3, eg, a, b, c, bg, rg, f1, f2, f3⟩
  refine ifB_dec (fun hlt => ?_) (fun hge => ?_)
  · have step : ∀ (s at_ : Int), 1 ≤ s → s ≤ 8 → Rd g1 h2.size pr A3 n q3 bs at_ → (∀ v : Int, v = num bs at_ s → ∀ g3, Ext h g3 → Rd g3 h2.size pr A3 n q3 bs (at_ + s) → Blk g3 p6 (over (l3 a b c) (0 + x.toNat * 1) [.int .u64 v]) 79 →
          andT [.bool, .int .i64] (fun (b : Bool) (x : Int) g' => 0 ≤ x ∧ x ≤ 3 ∧ Ext h g' ∧ ∃ a b c : Int, Blk g' p6 (l3 a b c) 79 ∧ Rd g' h2.size pr A3 n q3 bs (if x = 0 then 1 else if x = 1 then 1 + s0 else if x = 2 then 1 + s0 + s1 else 17) ∧
            (1 ≤ x → a = num bs 1 s0) ∧ (2 ≤ x → b = num bs (1 + s0) s1) ∧ (3 ≤ x → c = num bs (1 + s0 + s1) s2)) (fun (b : Bool) x g' => (3 - x).toNat) (3 - x).toNat b7 (IntKind.wrap .i64 (x + 1)) g3) → (n < at_ + s → okN bs kind = false) →
        callK Try.prog 40 #[(.pointer (some ⟨pr, 0, none⟩)), (.int .i64 s)] g1 (fun v38 h_1 => asT2 v38 (fun v38_0 v38_1 => asI .u64 v38_0 (fun x38a => asI .i64 v38_1 (fun x38b => ifB (x38b != 0) (loadN 3 (some ⟨p6, 0, none⟩) h_1 (fun c43 => storeK 3 (some ⟨p6, 0, none⟩) c43 h_1 (fun h => loadN 3 (some ⟨p6, 0, none⟩) h (fun c6 => k (.tuple #[(.agg c6), (.bool false)]) h)))) (indexK 1 (some ⟨p6, 0, none⟩) 3 x (fun p46 => storeK 1 p46 (Value.cells (.int .u64 x38a)) h_1 (fun h_1 => andT [.bool, .int .i64] (fun (b : Bool) (x : Int) g' => 0 ≤ x ∧ x ≤ 3 ∧ Ext h g' ∧ ∃ a b c : Int, Blk g' p6 (l3 a b c) 79 ∧ Rd g' h2.size pr A3 n q3 bs (if x = 0 then 1 else if x = 1 then 1 + s0 else if x = 2 then 1 + s0 + s1 else 17) ∧
            (1 ≤ x → a = num bs 1 s0) ∧ (2 ≤ x → b = num bs (1 + s0) s1) ∧ (3 ≤ x → c = num bs (1 + s0 + s1) s2)) (fun (b : Bool) x g' => (3 - x).toNat) (3 - x).toNat b7 (IntKind.wrap .i64 (x + 1)) h_1))))))) := by
      intro s at_ hs1 hs8 rg hnext hfail
      have ha0 := rg.ge
      refine c40 h2.size pr A3 n q3 bs at_ s g1 _ rg hb fun g2 r2 m2 => asT2_of (asI_of (asI_of ?_))
      have hrle := rg.le
      have bg2 := bg.mod m2 (fun e => by omega)
      have eg2 := eg.then m2 (fun i hi => by omega)
      rw [getR_num ha0 hs1 hs8] at r2 ⊢
      by_cases hlt2 : (bs.length : Int) < at_ + s
      · rw [if_pos hlt2]
        exact ifB_ne (fun _ => fin0 (hfail (by omega)) a b c g2 eg2 bg2) (fun e => absurd e (by decide))
      · rw [if_neg hlt2] at r2 ⊢
        simp only [if_true] at r2
        refine ifB_ne (fun e => absurd rfl e) (fun _ => ?_)
        rw [indexK_some]
        refine ⟨hx0, by omega, ?_⟩
        refine store_blk bg2 rfl (by simp [l3]; omega) (by simp [OneCells, Value.cells, Value.oneCell']) fun g3 b3 m3 => ?_
        refine hnext _ rfl g3 (eg2.then m3 (fun i hi => by omega)) (r2.mod m3 (fun i hi e => by have := r2.base hi; omega)) b3
    obtain rfl | rfl | rfl : x = 0 ∨ x = 1 ∨ x = 2 := by omega
    · refine ⟨by omega, by omega, _, rfl, asI_of (step s0 1 k0.1 k0.2 (by simpa using rg) (fun v hv g3 e3 r3 b3 => ?_) (fun hf => by rw [ok17]; simp; omega))⟩
      rw [wrap64_id (by omega) (by omega)]
      exact ⟨⟨by omega, by omega, e3, v, b, c, b3, by simpa using r3, fun _ => hv, by omega, by omega⟩, by dsimp only; omega⟩
    · refine ⟨by omega, by omega, _, rfl, asI_of (step s1 (1 + s0) k1.1 k1.2 (by simpa using rg) (fun v hv g3 e3 r3 b3 => ?_) (fun hf => by rw [ok17]; simp; omega))⟩
      rw [wrap64_id (by omega) (by omega)]
      exact ⟨⟨by omega, by omega, e3, a, v, c, b3, by simpa using r3, fun _ => f1 (by omega), fun _ => hv, by omega⟩, by dsimp only; omega⟩
    · refine ⟨by omega, by omega, _, rfl, asI_of (step s2 (1 + s0 + s1) k2.1 k2.2 (by simpa using rg) (fun v hv g3 e3 r3 b3 => ?_) (fun hf => by rw [ok17]; simp; omega))⟩
      rw [wrap64_id (by omega) (by omega)]
      have e17 : 1 + s0 + s1 + s2 = 17 := by omega
      rw [e17] at r3
      exact ⟨⟨by omega, by omega, e3, a, b, v, b3, by simpa using r3, fun _ => f1 (by omega), fun _ => f2 (by omega), fun _ => hv⟩, by dsimp only; omega⟩
  · have hx : x = 3 := by omega
    subst hx
    refine ret3 (p := 0) bg fun g' m => ?_
    rw [f1 (by omega), f2 (by omega), f3 (by omega)]
    have h17 : (17 : Int) ≤ n := by
      have := rg.le2
      simpa using this
    exact hk (by rw [ok17]; simp; omega) g' (eg.then m (fun i hi => by omega))
end Go.Proofs.Ytoifdnmbhdjhhaa
