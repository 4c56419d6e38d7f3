/- Bursts, xors and matrices of the sum; no program in sight; no condition. -/
import Derived.Test.YtoiagpebfkignaaPlain2
namespace Go.Proofs.Ytoiagpebfkignaa.Plain
open Go

/-! ### The lowest bits of a pattern -/
def low (i : Nat) (p : BitVec 32) : BitVec 32 := BitVec.ofNat 32 (p.toNat % 2 ^ i)
theorem low_bit (i : Nat) (p : BitVec 32) (j : Nat) : (low i p).getLsbD j = (decide (j < i) && p.getLsbD j) := by
  unfold low
  rw [BitVec.getLsbD_ofNat, Nat.testBit_mod_two_pow]
  by_cases h : j < 32
  · simp [h, BitVec.getLsbD]
  · simp [h, BitVec.getLsbD_of_ge p j (by omega)]
theorem low_zero (p : BitVec 32) : low 0 p = 0#32 := by
  apply BitVec.eq_of_getLsbD_eq; intro j _; rw [low_bit]; simp
theorem low_all (p : BitVec 32) : low 32 p = p := by
  apply BitVec.eq_of_getLsbD_eq; intro j h; rw [low_bit]; simp [h]
theorem one_shl_bit (i j : Nat) (hj : j < 32) : ((1#32) <<< i).getLsbD j = decide (j = i) := by
  rw [BitVec.getLsbD_shiftLeft, BitVec.getLsbD_one]
  by_cases h : j = i
  · subst h; simp [hj]
  · by_cases h2 : j < i
    · simp [h2, h]
    · simp [h2, h, show ¬ j - i = 0 by omega]
theorem low_succ_on {i : Nat} {p : BitVec 32} (h : p.getLsbD i = true) : low (i + 1) p = low i p ^^^ ((1#32) <<< i) := by
  apply BitVec.eq_of_getLsbD_eq; intro j hj
  rw [BitVec.getLsbD_xor, low_bit, low_bit, one_shl_bit _ _ hj]
  by_cases e : j = i
  · subst e; simp [h]
  · by_cases h2 : j < i
    · simp [h2, e, show j < i + 1 by omega]
    · simp [h2, e, show ¬ j < i + 1 by omega]
theorem low_succ_off {i : Nat} {p : BitVec 32} (h : p.getLsbD i = false) : low (i + 1) p = low i p := by
  apply BitVec.eq_of_getLsbD_eq; intro j hj
  rw [low_bit, low_bit]
  by_cases e : j = i
  · subst e; simp [h]
  · by_cases h2 : j < i
    · simp [h2, show j < i + 1 by omega]
    · simp [h2, show ¬ j < i + 1 by omega]
theorem low_on_ne {i : Nat} {p : BitVec 32} (h : p.getLsbD i = true) : low (i + 1) p ≠ 0#32 := by
  intro e
  have := low_bit (i + 1) p i
  rw [e, h] at this
  simp at this
theorem stpN_one_shl {n i : Nat} (_hi : i < 32) (hn : i ≤ n) : stpN n ((1#32) <<< i) = stpN (n - i) 1#32 :=
  stp_shl _ i (fun j hj => by
    rw [BitVec.getLsbD_one]
    simp
    omega) (by omega) hn

/-! ### Bits that are turned -/
theorem run_turn (p s : List Int) (x x' : Int) (d : BitVec 32) (h : b32 x' = b32 x ^^^ d) (r : BitVec 32) : run r (p ++ x' :: s) = run r (p ++ x :: s) ^^^ stpN (8 * (s.length + 1)) d := by
  rw [run_append, run_append, run_cons, run_cons]
  generalize run r p = q
  have e : stpc q x' = stpN 8 d ^^^ stpc q x := by
    unfold stpc
    rw [h, ← BitVec.xor_assoc, stpN_lin, BitVec.xor_comm]
  rw [e, run_shift, ← stpN_add, show 8 + 8 * s.length = 8 * (s.length + 1) by omega, BitVec.xor_comm]
/-- The text c is the text b with the pattern's i lowest bits turned from the place first on. -/
def Turned (b c : List Int) (first : Nat) (p : BitVec 32) (i : Nat) : Prop := c.length = b.length ∧ ∀ r, run r c = run r b ^^^ stpN (8 * b.length - first) (low i p)
theorem Turned.zero (b : List Int) (first : Nat) (p : BitVec 32) : Turned b b first p 0 := ⟨rfl, fun r => by rw [low_zero, stpN_zero, BitVec.xor_zero]⟩
theorem Turned.off {b c : List Int} {first : Nat} {p : BitVec 32} {i : Nat} (h : Turned b c first p i) (hb : p.getLsbD i = false) : Turned b c first p (i + 1) := ⟨h.1, fun r => by rw [low_succ_off hb, h.2]⟩
theorem Turned.on {b u s : List Int} {x x' : Int} {first : Nat} {p : BitVec 32} {i : Nat} (h : Turned b (u ++ x :: s) first p i) (hi : i < 32) (hb : p.getLsbD i = true)
    (hk : first + i < 8 * b.length) (hu : u.length = (first + i) / 8) (hx : b32 x' = b32 x ^^^ ((1#32) <<< ((first + i) % 8))) : Turned b (u ++ x' :: s) first p (i + 1) := by
  obtain ⟨h1, h2⟩ := h
  refine ⟨by rw [← h1]; simp, fun r => ?_⟩
  rw [run_turn u s x x' _ hx r, h2, low_succ_on hb, stpN_lin, BitVec.xor_assoc]
  congr 2
  simp only [List.length_append, List.length_cons] at h1
  rw [stpN_one_shl (by omega) (by omega), stpN_one_shl hi (by omega)]
  congr 1
  omega
theorem xor_ne_self (a d : BitVec 32) : a = a ^^^ d ↔ d = 0#32 := by
  constructor
  · intro h
    have : a ^^^ a = a ^^^ (a ^^^ d) := congrArg (fun x => a ^^^ x) h
    rw [BitVec.xor_self, ← BitVec.xor_assoc, BitVec.xor_self, BitVec.zero_xor] at this
    exact this.symm
  · intro h; rw [h, BitVec.xor_zero]
theorem Turned.sums {b c : List Int} {first : Nat} {p : BitVec 32} {i : Nat} (h : Turned b c first p i) : upd 0#32 b = upd 0#32 c ↔ low i p = 0#32 := by
  unfold upd
  have e : ∀ x y : BitVec 32, ~~~x = ~~~y ↔ x = y := fun x y => ⟨fun h => by rw [← BitVec.not_not (b := x), h, BitVec.not_not], fun h => by rw [h]⟩
  rw [e, h.2, xor_ne_self, stpN_ne]

/-! ### The xor of three texts -/
theorem xor_six (a b c d e f : BitVec 32) : (a ^^^ b ^^^ c) ^^^ (d ^^^ e ^^^ f) = (a ^^^ d) ^^^ (b ^^^ e) ^^^ (c ^^^ f) := by ac_rfl
theorem run_xors : ∀ (d a b c : List Int) (r s t : BitVec 32), a.length = d.length → b.length = d.length → c.length = d.length →
    (∀ i, i < d.length → b32 (d.getD i 0) = b32 (a.getD i 0) ^^^ b32 (b.getD i 0) ^^^ b32 (c.getD i 0)) → run (r ^^^ s ^^^ t) d = run r a ^^^ run s b ^^^ run t c := by
  intro d
  induction d with
  | nil =>
    intro a b c r s t h1 h2 h3 _
    rw [List.length_eq_zero_iff.1 h1, List.length_eq_zero_iff.1 h2, List.length_eq_zero_iff.1 h3]; rfl
  | cons x d ih =>
    intro a b c r s t h1 h2 h3 h
    cases a with
    | nil => simp at h1
    | cons xa a =>
      cases b with
      | nil => simp at h2
      | cons xb b =>
        cases c with
        | nil => simp at h3
        | cons xc c =>
          have h0 := h 0 (by simp)
          simp only [List.getD_cons_zero] at h0
          simp only [List.length_cons, Nat.add_right_cancel_iff] at h1 h2 h3
          simp only [run_cons]
          have e : stpc (r ^^^ s ^^^ t) x = stpc r xa ^^^ stpc s xb ^^^ stpc t xc := by
            unfold stpc
            rw [h0, xor_six, stpN_lin, stpN_lin]
          rw [e]
          refine ih a b c _ _ _ h1 h2 h3 (fun i hi => ?_)
          have := h (i + 1) (by simp; omega)
          simpa only [List.getD_cons_succ] using this
theorem not_three (a b c : BitVec 32) : ~~~(a ^^^ b ^^^ c) = ~~~a ^^^ ~~~b ^^^ ~~~c := by
  simp only [← BitVec.xor_allOnes]
  generalize BitVec.allOnes 32 = o
  have : (a ^^^ o) ^^^ (b ^^^ o) ^^^ (c ^^^ o) = (a ^^^ b ^^^ c ^^^ o) ^^^ (o ^^^ o) := by ac_rfl
  rw [this, BitVec.xor_self, BitVec.xor_zero]
theorem upd_xors {d a b c : List Int} (h1 : a.length = d.length) (h2 : b.length = d.length) (h3 : c.length = d.length)
    (h : ∀ i, i < d.length → b32 (d.getD i 0) = b32 (a.getD i 0) ^^^ b32 (b.getD i 0) ^^^ b32 (c.getD i 0)) : upd 0#32 d = upd 0#32 a ^^^ upd 0#32 b ^^^ upd 0#32 c := by
  unfold upd
  have e : ~~~0#32 = ~~~0#32 ^^^ ~~~0#32 ^^^ ~~~(0#32) := by decide
  rw [show run (~~~0#32) d = run (~~~0#32 ^^^ ~~~0#32 ^^^ ~~~(0#32)) d by rw [← e], run_xors d a b c _ _ _ h1 h2 h3 h, not_three]

/-! ### Matrices -/
def times (m : Nat → BitVec 32) (v : BitVec 32) : Nat → BitVec 32
  | 0 => 0#32
  | i + 1 => if v.getLsbD i = true then times m v i ^^^ m i else times m v i
def mat (n : Nat) (i : Nat) : BitVec 32 := stpN n ((1#32) <<< i)
theorem times_mat (n : Nat) (v : BitVec 32) (i : Nat) : times (mat n) v i = stpN n (low i v) := by
  induction i with
  | zero => rw [low_zero, stpN_zero]; rfl
  | succ i ih =>
    unfold times
    by_cases h : v.getLsbD i = true
    · rw [if_pos h, ih, low_succ_on h, stpN_lin]; rfl
    · rw [if_neg h, ih, low_succ_off (by simpa using h)]
theorem times_all (n : Nat) (v : BitVec 32) : times (mat n) v 32 = stpN n v := by rw [times_mat, low_all]
theorem mat_square (n i : Nat) : stpN n (mat n i) = mat (2 * n) i := by
  unfold mat
  rw [← stpN_add, show n + n = 2 * n by omega]
theorem mat_step (i : Nat) : stpc ((1#32) <<< i) 0 = mat 8 i := by
  unfold stpc mat
  rw [show b32 0 = 0#32 by decide, BitVec.xor_zero]
end Go.Proofs.Ytoiagpebfkignaa.Plain
