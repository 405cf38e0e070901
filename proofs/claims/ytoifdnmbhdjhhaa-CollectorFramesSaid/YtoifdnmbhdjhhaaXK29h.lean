/- What is proved: contracts of functions that the law calls, and of the law itself, over any heap. Conditions stand in each theorem. -/
import Derived.Test.YtoifdnmbhdjhhaaXK29g
set_option linter.unusedSimpArgs false
set_option linter.unusedVariables false
namespace Go.Proofs.Ytoifdnmbhdjhhaa
open Go.Oct Go.Oct.L01

theorem num_at {xs ys zs : List Int} {a s : Nat} (h1 : xs.length = a) (h2 : ys.length = s) : num (xs ++ (ys ++ zs)) a s = val ys := by
  unfold num
  simp only [Int.toNat_natCast]
  rw [List.drop_left' h1, List.take_left' h2]
def dX (E N P : Int) (bs : List Int) : List Int := if mayB E N P = true then dataB E N P bs else []
def dErr (E N P : Int) : Int := if mayB E N P = true then 0 else 290
def rE (bs : List Int) : Int := if pOk bs = true then pE bs else 0
def rN (bs : List Int) : Int := if pOk bs = true then pN bs else 0
def rP (bs : List Int) : Int := if pOk bs = true then pP bs else 0
def rR (bs : List Int) : List Int := if pOk bs = true then bs.drop 17 else []
def rErr (bs : List Int) : Int := if pOk bs = true then 0 else 290
def kD (bs : List Int) : Int := if aOk bs = true then num bs 1 4 else 0
def kE (bs : List Int) : Int := if aOk bs = true then num bs 5 4 else 0
def kN' (bs : List Int) : Int := if aOk bs = true then num bs 9 8 else 0
def kErr (bs : List Int) : Int := if aOk bs = true then 0 else 290
theorem dX_isB {E N P : Int} {bs : List Int} (h : ∀ x ∈ bs, isB x) : ∀ x ∈ dX E N P bs, isB x := by
  unfold dX
  split
  · exact dataB_isB h
  · simp
theorem rR_isB {bs : List Int} (h : ∀ x ∈ bs, isB x) : ∀ x ∈ rR bs, isB x := by
  unfold rR
  split
  · exact fun x hx => h x (List.mem_of_mem_drop hx)
  · simp
theorem data_parse {E N P : Int} {bs : List Int} (hE : u32B E) (hN : u64B N) (hP : u32B P) (hm : mayB E N P = true) :
    pOk (dataB E N P bs) = true ∧ pE (dataB E N P bs) = E ∧ pN (dataB E N P bs) = N ∧ pP (dataB E N P bs) = P ∧ (dataB E N P bs).drop 17 = bs := by
  have l1 : (bytesOf E 4).length = 4 := bytesOf_length _ _
  have l2 : (bytesOf N 8).length = 8 := bytesOf_length _ _
  have l3 : (bytesOf P 4).length = 4 := bytesOf_length _ _
  have v1 : val (bytesOf E 4) = E := val_bytesOf 4 E hE.1 (by unfold u32B at hE; have : (256 : Int) ^ 4 = 4294967296 := by decide
                                                              omega)
  have v2 : val (bytesOf N 8) = N := val_bytesOf 8 N hN.1 (by unfold u64B at hN; have : (256 : Int) ^ 8 = 18446744073709551616 := by decide
                                                              omega)
  have v3 : val (bytesOf P 4) = P := val_bytesOf 4 P hP.1 (by unfold u32B at hP; have : (256 : Int) ^ 4 = 4294967296 := by decide
                                                              omega)
  have e0 : num (dataB E N P bs) 0 1 = 1 := by
    have := num_at (xs := []) (ys := [1]) (zs := bytesOf E 4 ++ bytesOf N 8 ++ bytesOf P 4 ++ bs) (a := 0) (s := 1) rfl rfl
    simpa [dataB, val] using this
  have e1 : pE (dataB E N P bs) = E := by
    have := num_at (xs := [1]) (ys := bytesOf E 4) (zs := bytesOf N 8 ++ bytesOf P 4 ++ bs) (a := 1) (s := 4) rfl l1
    rw [v1] at this
    simpa [pE, dataB] using this
  have e2 : pN (dataB E N P bs) = N := by
    have := num_at (xs := [1] ++ bytesOf E 4) (ys := bytesOf N 8) (zs := bytesOf P 4 ++ bs) (a := 5) (s := 8) (by simp [l1]) l2
    rw [v2] at this
    simpa [pN, dataB] using this
  have e3 : pP (dataB E N P bs) = P := by
    have := num_at (xs := [1] ++ bytesOf E 4 ++ bytesOf N 8) (ys := bytesOf P 4) (zs := bs) (a := 13) (s := 4) (by simp [l1, l2]) l3
    rw [v3] at this
    simpa [pP, dataB] using this
  have hl : (dataB E N P bs).length = 17 + bs.length := by simp [dataB, l1, l2, l3]; omega
  refine ⟨?_, e1, e2, e3, ?_⟩
  · unfold pOk okN
    rw [e0, e1, e2, e3, hm, hl]
    simp
  · have : dataB E N P bs = ([1] ++ bytesOf E 4 ++ bytesOf N 8 ++ bytesOf P 4) ++ bs := rfl
    rw [this, List.drop_left' (by simp [l1, l2, l3])]
theorem ack_parse {D E N : Int} (hD : u32B D) (hE : u32B E) (hN : u64B N) : aOk (ackB D E N) = true ∧ num (ackB D E N) 1 4 = D ∧ num (ackB D E N) 5 4 = E ∧ num (ackB D E N) 9 8 = N := by
  have l1 : (bytesOf D 4).length = 4 := bytesOf_length _ _
  have l2 : (bytesOf E 4).length = 4 := bytesOf_length _ _
  have l3 : (bytesOf N 8).length = 8 := bytesOf_length _ _
  have v1 : val (bytesOf D 4) = D := val_bytesOf 4 D hD.1 (by unfold u32B at hD; have : (256 : Int) ^ 4 = 4294967296 := by decide
                                                              omega)
  have v2 : val (bytesOf E 4) = E := val_bytesOf 4 E hE.1 (by unfold u32B at hE; have : (256 : Int) ^ 4 = 4294967296 := by decide
                                                              omega)
  have v3 : val (bytesOf N 8) = N := val_bytesOf 8 N hN.1 (by unfold u64B at hN; have : (256 : Int) ^ 8 = 18446744073709551616 := by decide
                                                              omega)
  have e0 : num (ackB D E N) 0 1 = 2 := by
    have := num_at (xs := []) (ys := [2]) (zs := bytesOf D 4 ++ bytesOf E 4 ++ bytesOf N 8) (a := 0) (s := 1) rfl rfl
    simpa [ackB, val] using this
  have hl : (ackB D E N).length = 17 := by simp [ackB, l1, l2, l3]
  refine ⟨by unfold aOk; rw [e0, hl]; simp, ?_, ?_, ?_⟩
  · have := num_at (xs := [2]) (ys := bytesOf D 4) (zs := bytesOf E 4 ++ bytesOf N 8) (a := 1) (s := 4) rfl l1
    rw [v1] at this
    simpa [ackB] using this
  · have := num_at (xs := [2] ++ bytesOf D 4) (ys := bytesOf E 4) (zs := bytesOf N 8) (a := 5) (s := 4) (by simp [l1]) l2
    rw [v2] at this
    simpa [ackB] using this
  · have := num_at (xs := [2] ++ bytesOf D 4 ++ bytesOf E 4) (ys := bytesOf N 8) (zs := []) (a := 9) (s := 8) (by simp [l1, l2]) l3
    rw [v3] at this
    simpa [ackB] using this

/-! contracts without branches -/
theorem k9 (E N P : Int) (A : Option Addr) (n c : Nat) (bs : List Int) (h : H) (k : Value → H → Prop) (hE : u32B E) (hN : u64B N) (hP : u32B P) (hr : RowH h A n (bs.map bf).toArray) (hn : n ≤ 400)
    (hk : ∀ A' n' c' h', Ext h h' → Byt h' h.size A' n' c' (dX E N P bs) → n' ≤ 417 → k (.tuple #[.slice A' n' c', .int .i64 (dErr E N P)]) h') : callK Try.prog 9 #[.agg (ent E N P (.slice A n c))] h k := by
  refine c9 E N P A n c bs h k hE hN hP hr (by omega) (fun hm h' e => ?_) (fun hm A' c' h' e l => ?_)
  · have := hk none 0 0 h' e (by unfold dX; rw [if_neg (by rw [hm]; decide)]; exact Lst.nil) (by omega)
    unfold dErr at this; rw [if_neg (by rw [hm]; decide)] at this; exact this
  · have := hk A' (17 + n) c' h' e (by unfold dX; rw [if_pos hm]; exact l) (by omega)
    unfold dErr at this; rw [if_pos hm] at this; exact this
theorem k12 (E N P : Int) (A : Option Addr) (n c : Nat) (bs : List Int) (h : H) (k : Value → H → Prop) (hE : u32B E) (hN : u64B N) (hP : u32B P) (hr : RowH h A n (bs.map bf).toArray) (hn : n ≤ 400)
    (hk : ∀ A' n' c' h', Ext h h' → Byt h' h.size A' n' c' (dX E N P bs) → n' ≤ 417 → k (.tuple #[.slice A' n' c', .int .i64 (dErr E N P)]) h') : callK Try.prog 12 #[.agg (ent E N P (.slice A n c))] h k := by
  refine c12 E N P A n c bs h k hE hN hP hr (by omega) (fun hm h' e => ?_) (fun hm A' c' h' e l => ?_)
  · have := hk none 0 0 h' e (by unfold dX; rw [if_neg (by rw [hm]; decide)]; exact Lst.nil) (by omega)
    unfold dErr at this; rw [if_neg (by rw [hm]; decide)] at this; exact this
  · have := hk A' (17 + n) c' h' e (by unfold dX; rw [if_pos hm]; exact l) (by omega)
    unfold dErr at this; rw [if_pos hm] at this; exact this
theorem k10 (A : Option Addr) (n c : Nat) (bs : List Int) (h : H) (k : Value → H → Prop) (hr : RowH h A n (bs.map bf).toArray) (hc : n ≤ c) (hn : n ≤ 417) (hb : ∀ x ∈ bs, isB x)
    (hk : ∀ A' n' c' h', Ext h h' → Byt h' h.size A' n' c' (rR bs) → n' ≤ 417 → k (.tuple #[.agg (ent (rE bs) (rN bs) (rP bs) (.slice A' n' c')), .int .i64 (rErr bs)]) h') : callK Try.prog 10 #[.slice A n c] h k := by
  refine c10 A n c bs h k hr hc (by omega) hb (fun hm h' e => ?_) (fun hm A' c' h' e l => ?_)
  · have hm' : ¬ pOk bs = true := by rw [hm]; decide
    have := hk none 0 0 h' e (by unfold rR; rw [if_neg hm']; exact Lst.nil) (by omega)
    simp only [rE, rN, rP, rErr, if_neg hm'] at this; exact this
  · have := hk A' (n - 17) c' h' e (by unfold rR; rw [if_pos hm]; exact l) (by omega)
    simp only [rE, rN, rP, rErr, if_pos hm] at this; exact this
theorem k13 (A : Option Addr) (n c : Nat) (bs : List Int) (h : H) (k : Value → H → Prop) (hr : RowH h A n (bs.map bf).toArray) (hc : n ≤ c) (hn : n ≤ 417) (hb : ∀ x ∈ bs, isB x)
    (hk : ∀ A' n' c' h', Ext h h' → Byt h' h.size A' n' c' (rR bs) → n' ≤ 417 → k (.tuple #[.agg (ent (rE bs) (rN bs) (rP bs) (.slice A' n' c')), .int .i64 (rErr bs)]) h') : callK Try.prog 13 #[.slice A n c] h k := by
  refine c13 A n c bs h k hr hc (by omega) hb (fun hm h' e => ?_) (fun hm A' c' h' e l => ?_)
  · have hm' : ¬ pOk bs = true := by rw [hm]; decide
    have := hk none 0 0 h' e (by unfold rR; rw [if_neg hm']; exact Lst.nil) (by omega)
    simp only [rE, rN, rP, rErr, if_neg hm'] at this; exact this
  · have := hk A' (n - 17) c' h' e (by unfold rR; rw [if_pos hm]; exact l) (by omega)
    simp only [rE, rN, rP, rErr, if_pos hm] at this; exact this
theorem k11 (A : Option Addr) (n c : Nat) (bs : List Int) (h : H) (k : Value → H → Prop) (hr : RowH h A n (bs.map bf).toArray) (hc : n ≤ c) (hn : n ≤ 417) (hb : ∀ x ∈ bs, isB x)
    (hk : ∀ h', Ext h h' → k (.tuple #[.agg (ack (kD bs) (kE bs) (kN' bs)), .int .i64 (kErr bs)]) h') : callK Try.prog 11 #[.slice A n c] h k := by
  refine c11 A n c bs h k hr hc (by omega) hb (fun hm h' e => ?_) (fun hm h' e => ?_)
  · have hm' : ¬ aOk bs = true := by rw [hm]; decide
    have := hk h' e
    simp only [kD, kE, kN', kErr, if_neg hm'] at this; exact this
  · have := hk h' e
    simp only [kD, kE, kN', kErr, if_pos hm] at this; exact this
theorem k14 (A : Option Addr) (n c : Nat) (bs : List Int) (h : H) (k : Value → H → Prop) (hr : RowH h A n (bs.map bf).toArray) (hc : n ≤ c) (hn : n ≤ 417) (hb : ∀ x ∈ bs, isB x)
    (hk : ∀ h', Ext h h' → k (.tuple #[.agg (ack (kD bs) (kE bs) (kN' bs)), .int .i64 (kErr bs)]) h') : callK Try.prog 14 #[.slice A n c] h k := by
  refine c14 A n c bs h k hr hc (by omega) hb (fun hm h' e => ?_) (fun hm h' e => ?_)
  · have hm' : ¬ aOk bs = true := by rw [hm]; decide
    have := hk h' e
    simp only [kD, kE, kN', kErr, if_neg hm'] at this; exact this
  · have := hk h' e
    simp only [kD, kE, kN', kErr, if_pos hm] at this; exact this
end Go.Proofs.Ytoifdnmbhdjhhaa
