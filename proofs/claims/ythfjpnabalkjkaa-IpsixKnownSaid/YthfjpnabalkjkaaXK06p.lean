/- What is proved: contracts of functions that the law calls, and of the law itself, over any heap. Conditions stand in each theorem. -/
import Derived.Test.YthfjpnabalkjkaaXK06o
set_option linter.unusedSimpArgs false
set_option linter.unusedVariables false
namespace Go.Proofs.Ythfjpnabalkjkaa
open Go.Oct Go.Oct.L01 Go.Oct.L06
/-- what is parsed of a whole packet, and the error -/
def bE (b : List Int) : Int := match body b with
  | .inl _ => 0
  | .inr e => e
def bH (b : List Int) : Hd := match body b with
  | .inl r => r.1
  | .inr _ => zH
def bHr (b : List Int) : Hd := match body b with
  | .inl r => r.1
  | .inr _ => zR
def bX (b : List Int) : List L06.Ext := match body b with
  | .inl r => r.2.1
  | .inr _ => []
def bP (b : List Int) : Int := match body b with
  | .inl r => r.2.2.1
  | .inr _ => 0
def bR (b : List Int) : List Int := match body b with
  | .inl r => r.2.2.2
  | .inr _ => []
def cE (first : Int) (b : List Int) : Int := match parse first b with
  | .inl _ => 0
  | .inr e => e
def cX (first : Int) (b : List Int) : List L06.Ext := match parse first b with
  | .inl r => r.1
  | .inr _ => []
def cP (first : Int) (b : List Int) : Int := match parse first b with
  | .inl r => r.2.1
  | .inr _ => 0
def cU (first : Int) (b : List Int) : Nat := match parse first b with
  | .inl r => r.2.2
  | .inr _ => 0
theorem body_hd {b : List Int} {r : Hd × List L06.Ext × Int × List Int} (hb : ∀ x ∈ b, isB x) (h : body b = .inl r) : parseH b = .inl r.1 ∧ r.1.ok := by
  unfold body at h
  split at h
  · cases h
  · rename_i hh hp
    split at h
    · cases h
    · split at h
      · cases h
      · cases h
        exact ⟨hp, (parseH_ok hb hp).1⟩
theorem nilCx (h : H) (base : Nat) : Cx h base none 0 0 [] := ⟨Lst.nil, by simp, by intro i j v w hv; simp at hv, by simp, by simp, by omega⟩
theorem nilRC (h : H) : RC h none 0 [] 0 := ⟨⟨rfl, fun h => absurd h (by decide)⟩, rfl, by simp, by decide, by omega⟩
section
variable {h : H} {k : Value → H → Prop}
theorem c11p (first : Int) {B : Option Addr} {m d : Nat} {b : List Int} (hf : isB first) (hr : RowH h B m (b.map bf).toArray) (hmd : m ≤ d) (hm : m ≤ 1000000) (hb : ∀ x ∈ b, isB x)
    (hk : ∀ (A : Option Addr) (n c : Nat) (xs : List Ex) (h' : H), Go.Oct.Ext h h' → Cx h' h.size A n c xs → pairs xs = cX first b → isB (cP first b) → k (.tuple #[.agg (chv A n c (cP first b)), .int .i64 (cU first b), .int .i64 (cE first b)]) h') : callK Try.prog 11 #[.int .u8 first, .slice B m d] h k := by
  unfold cX cP cU cE at hk
  refine c11 first B m d b hf hr hmd hm hb (fun e he h' x => ?_) (fun A n c xs p u hp hpb h' x cx => ?_)
  · simp only [he] at hk
    exact hk none 0 0 [] h' x (nilCx _ _) rfl (by decide)
  · simp only [hp] at hk
    exact hk A n c xs h' x cx rfl hpb
theorem c24p (first : Int) {B : Option Addr} {m d : Nat} {b : List Int} (hf : isB first) (hr : RowH h B m (b.map bf).toArray) (hmd : m ≤ d) (hm : m ≤ 1000000) (hb : ∀ x ∈ b, isB x)
    (hk : ∀ (L : Option Addr) (n q : Nat) (h' : H), Go.Oct.Ext h h' → RC h' L n (cX first b) (cP first b) → k (.tuple #[.agg (chv L n q (cP first b)), .int .i64 (cU first b), .int .i64 (cE first b)]) h') : callK Try.prog 24 #[.int .u8 first, .slice B m d] h k := by
  unfold cX cP cU cE at hk
  refine c24 first B m d b hf hr hmd hm hb (fun e he h' x => ?_) (fun L n q ys p u hp h' x r _ => ?_)
  · simp only [he] at hk
    exact hk none 0 0 h' x (nilRC h')
  · simp only [hp] at hk
    exact hk L n q h' x r
theorem c15p {B : Option Addr} {m d : Nat} {b : List Int} (hr : RowH h B m (b.map bf).toArray) (hmd : m ≤ d) (hm : m ≤ 1000000) (hb : ∀ x ∈ b, isB x)
    (hk : ∀ (A : Option Addr) (n c : Nat) (xs : List Ex) (A' : Option Addr) (c' : Nat) (h' : H), Go.Oct.Ext h h' → Cx h' h.size A n c xs → pairs xs = bX b → isB (bP b) → (∀ x ∈ bR b, isB x) → Byt h' h.size A' (bR b).length c' (bR b) → (∀ x ∈ xs, ∀ i, blkOf x.A i → ¬ blkOf A' i) →
      k (.tuple #[.agg (hcells (bH b)).toArray, .agg (chv A n c (bP b)), .slice A' (bR b).length c', .int .i64 (bE b)]) h') : callK Try.prog 15 #[.slice B m d] h k := by
  unfold bX bP bR bH bE at hk
  refine c15 hr hmd hm hb (fun e he h' x => ?_) (fun hh A n c xs p rest hbd hpb hrb A' c' h' x cx l dj => ?_)
  · simp only [he] at hk
    exact hk none 0 0 [] none 0 h' x (nilCx _ _) rfl (by decide) (by simp) Lst.nil (by simp)
  · simp only [hbd] at hk
    exact hk A n c xs A' c' h' x cx rfl hpb hrb l dj
set_option maxHeartbeats 1000000 in
/-- the reference's Body -/
theorem c25 {B : Option Addr} {m d : Nat} {b : List Int} (hr : RowH h B m (b.map bf).toArray) (hmd : m ≤ d) (hm : m ≤ 1000000) (hb : ∀ x ∈ b, isB x)
    (hk : ∀ (L : Option Addr) (n q : Nat) (A' : Option Addr) (c' : Nat) (h' : H), Go.Oct.Ext h h' → RC h' L n (bX b) (bP b) → RowH h' A' (bR b).length ((bR b).map bf).toArray →
      k (.tuple #[.agg (rcells (bHr b)).toArray, .agg (chv L n q (bP b)), .slice A' (bR b).length c', .int .i64 (bE b)]) h') : callK Try.prog 25 #[.slice B m d] h k := by
  refine call25 _ _ _ _ _ ?_
  unfold d25
  have hbl : b.length = m := by simpa using hr.1
  refine alloc_new fun p2 g1 y2 b2 x1 => alloc_new fun p3 g2 y3 b3 x2 => ?_
  have x12 := x1.trans x2
  have z1 := x1.size
  have z2 := x2.size
  have l2 := b2.lt
  have l3 := b3.lt
  have b2 : Blk g2 p2 (rcells zR).toArray 64 := b2.ext x2
  have b3 : Blk g2 p3 (chv none 0 0 0) 53 := b3
  have zerr : ∀ (e : Int) (g' : H), Go.Oct.Ext g2 g' → body b = .inr e →
      storeK 7 (some ⟨p2, 0, none⟩) (rcells zR).toArray g' (fun h => storeK 2 (some ⟨p3, 0, none⟩) (chv none 0 0 0) h (fun h => loadN 7 (some ⟨p2, 0, none⟩) h (fun c2 => loadN 2 (some ⟨p3, 0, none⟩) h (fun c3 => k (.tuple #[(.agg c2), (.agg c3), .slice none 0 0, (.int .i64 e)]) h)))) := by
    intro e g' xg he
    unfold bX bP bR bHr bE at hk
    simp only [he] at hk
    refine store_all (b2.ext xg) rfl (by rfl) (rcells_one zR) fun g4 b4 m4 => ?_
    refine store_all ((b3.ext xg).mod m4 (fun e => by omega)) rfl (by rfl) (by simp [OneCells, chv, Value.oneCell']) fun g5 b5 m5 => ?_
    refine (b4.mod m5 (fun e => by omega)).at_.loadN rfl (b5.at_.loadN rfl (hk none 0 0 none 0 g5 (((x12.trans xg).then m4 (fun i hi => by rw [hi]; exact y2)).then m5 (fun i hi => by rw [hi]; omega)) (nilRC g5) RowH.nil))
  refine c31 (hr.ext x12) hmd hm hb fun g3 x3 => asT2_of (asA_of rfl (asI_of ?_))
  refine newVr (by simp) rfl (rcells_one _) fun p6 g4 y4 b4 x4 => ?_
  have x34 := x3.trans x4
  have a6 : At g4 p6 0 (rcells (prR b)) := b4.at_
  refine ifB_ne (fun h1 => ?_) (fun h1 => ?_)
  · have he : body b = .inr (prE b) := by
      unfold prE at h1 ⊢
      cases hp : parseH b with
      | inl hh => rw [hp] at h1; exact absurd rfl h1
      | inr e => unfold body; rw [hp]
    exact zerr _ g4 x34 he
  obtain ⟨hh, hp⟩ : ∃ hh, parseH b = .inl hh := by
    unfold prE at h1
    cases hp : parseH b with
    | inl hh => exact ⟨hh, rfl⟩
    | inr e =>
      rw [hp] at h1
      dsimp only at h1
      rcases parseH_err hp with h2 | h2 <;> omega
  have hpr : prR b = hh := by unfold prR; rw [hp]
  rw [hpr] at a6
  obtain ⟨oh, heq, h40⟩ := parseH_ok hb hp
  have hlen := oh.len
  obtain ⟨n, hn⟩ := Int.eq_ofNat_of_zero_le hlen.1
  refine addrK_of rfl (a6.load1 2 rfl rfl (asI_of ?_))
  rw [wrap64_id (x := hh.len) (by omega) (by omega), wrap64_id (x := 40 + hh.len) (by omega) (by omega)]
  refine ifB_dec (fun h2 => zerr 10 g4 x34 (by unfold body; rw [hp]; dsimp only; rw [if_pos (by omega)])) (fun h2 => ?_)
  have h2' : ¬ (b.length : Int) < 40 + hh.len := by omega
  refine addrK_of rfl (a6.load1 2 rfl rfl (asI_of ?_))
  rw [wrap64_id (x := hh.len) (by omega) (by omega), wrap64_id (x := 40 + hh.len) (by omega) (by omega), needK_true (by simp), hn]
  have x04 := x12.trans x34
  refine row_slice (hr.ext x04) hmd (l := 40) (u := 40 + n) rfl (by simp) (by omega) (by omega) fun A35 c35 r35 hc35 _ d35 => ?_
  have e1 : 40 + n - 40 = n := by omega
  rw [e1] at r35 hc35 ⊢
  have hbb : ∀ x ∈ (b.drop 40).take n, isB x := fun x hx => hb x (List.mem_of_mem_drop (List.mem_of_mem_take hx))
  refine addrK_of rfl (a6.load1 3 rfl rfl (asI_of ?_))
  have hnl : ((b.drop 40).take n).length = n := by rw [List.length_take, List.length_drop]; omega
  have z34 := x34.size
  have hbody : body b = match parse hh.nx ((b.drop 40).take n) with
      | .inr e => .inr e
      | .inl (xs, p, u) => .inl (hh, xs, p, ((b.drop 40).take n).drop u) := by
    unfold body
    rw [hp]
    dsimp only
    rw [if_neg h2', hn, Int.toNat_natCast]
    rfl
  refine c24 hh.nx A35 n c35 _ oh.nx r35 hc35 (by omega) hbb (fun e he g5 x5 => asT3_of (asA_of rfl (asI_of (asI_of ?_)))) (fun L nn q ys p u hpo g5 x5 rr hL => asT3_of (asA_of rfl (asI_of (asI_of ?_))))
  · refine newVr (by simp) rfl (by simp [OneCells, chv, Value.oneCell']) fun p9 g6 y6 b6 x6 => ?_
    have he0 : e ≠ 0 := by rcases pc_err he with h3 | h3 <;> omega
    exact ifB_ne (fun _ => zerr e g6 (x34.trans (x5.trans x6)) (by rw [hbody, he])) (fun h3 => absurd h3 he0)
  · refine newVr (by simp) rfl (by simp [OneCells, chv, Value.oneCell']) fun p9 g6 y6 b6 x6 => ?_
    refine ifB_ne (fun h3 => absurd rfl h3) (fun _ => ?_)
    rw [hpo] at hbody
    dsimp only at hbody
    obtain ⟨-, -, hul, -, -⟩ := put_of_parse hbb hpo
    rw [hnl] at hul
    have x56 := x5.trans x6
    have z5 := x5.size
    have lp6 := b4.lt
    have z3 := x3.size
    have a9 : At g6 p9 0 [.slice L nn q, .int .u8 p] := b6.at_
    refine ⟨fun g' => Go.Oct.Mod g6 g' (fun i => i = p2), Go.Oct.Mod.refl _ _, ?_⟩
    refine At.loadSNm (a6.ext x56) (fun e => by omega) rfl (At.loadSNm a9 (fun e => by omega) rfl ?_)
    rw [needK_true (by simp)]
    refine row_slice (r35.ext x56) hc35 (l := u) (u := n) rfl rfl (by omega) (by omega) fun A53 c53 r53 _ _ d53 => ?_
    rw [List.take_of_length_le (by rw [List.length_drop]; omega)] at r53
    have k2 := b2.ext (x34.trans x56)
    have k3 := b3.ext (x34.trans x56)
    refine store_all k2 rfl (by rfl) (rcells_one hh) fun g7 k7 m7 => ⟨m7, ?_⟩
    refine store_all (k3.mod m7 (fun e => by omega)) rfl (by rfl) (by simp [OneCells, chv, Value.oneCell']) fun g8 k8 m8 => ?_
    refine (k7.mod m8 (fun e => by omega)).at_.loadN rfl (k8.at_.loadN rfl ?_)
    have mm : Go.Oct.Mod g6 g8 (fun i => i = p2 ∨ i = p3) := (m7.mono fun i _ hi => .inl hi).trans (m8.mono fun i _ hi => .inr hi)
    have e8 := (x04.trans x56).then mm (fun i hi => by rcases hi with hi | hi <;> omega)
    have hr53 : ∀ i, blkOf A53 i → 0 < n - u → i < h.size := fun i hi h0 => RowH.lt hr (by omega) i (d35 i (d53 i hi))
    have r538 : RowH g8 A53 (n - u) ((((b.drop 40).take n).drop u).map bf).toArray := by
      rcases Nat.eq_zero_or_pos (n - u) with h0 | h0
      · rw [h0] at r53 ⊢
        exact ⟨r53.1, fun h => absurd h (by decide)⟩
      · exact r53.mod mm (fun ad e hi => by have := hr53 ad.block ⟨ad, e, rfl⟩ h0; rcases hi with hi | hi <;> omega)
    have rr8 := (rr.ext x6).mod mm (fun i hi e => by have := hL i hi; rcases e with e | e <;> omega)
    have hrl : (((b.drop 40).take n).drop u).length = n - u := by rw [List.length_drop, hnl]
    unfold bX bP bR bHr bE at hk
    simp only [hbody] at hk
    rw [hrl] at hk
    exact hk L nn q A53 c53 g8 e8 rr8 r538
end
end Go.Proofs.Ythfjpnabalkjkaa
