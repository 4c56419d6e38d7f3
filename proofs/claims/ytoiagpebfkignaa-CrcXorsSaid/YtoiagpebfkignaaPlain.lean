/- The sum as a fold of a linear, invertible map of 32 bits; no program in sight; no condition. -/
import Derived.WalkKit
namespace Go.Proofs.Ytoiagpebfkignaa.Plain
open Go

def poly : BitVec 32 := 0xEDB88320#32
def pick (c : Bool) : BitVec 32 := if c then poly else 0#32
def stp (r : BitVec 32) : BitVec 32 := (r >>> 1) ^^^ pick (r.getLsbD 0)
def stpN : Nat → BitVec 32 → BitVec 32
  | 0, r => r
  | n + 1, r => stpN n (stp r)

theorem pick_xor (a b : Bool) : pick (a ^^ b) = pick a ^^^ pick b := by cases a <;> cases b <;> decide
theorem xor4 (a b c d : BitVec 32) : (a ^^^ b) ^^^ (c ^^^ d) = (a ^^^ c) ^^^ (b ^^^ d) := by ac_rfl
theorem stp_lin (a b : BitVec 32) : stp (a ^^^ b) = stp a ^^^ stp b := by
  unfold stp
  rw [BitVec.ushiftRight_xor_distrib, BitVec.getLsbD_xor, pick_xor, xor4]
theorem stpN_lin (n : Nat) : ∀ a b, stpN n (a ^^^ b) = stpN n a ^^^ stpN n b := by
  induction n with
  | zero => intro a b; rfl
  | succ n ih => intro a b; simp only [stpN, stp_lin, ih]
theorem stp_zero : stp 0#32 = 0#32 := by decide
theorem stpN_zero (n : Nat) : stpN n 0#32 = 0#32 := by
  induction n with
  | zero => rfl
  | succ n ih => simp only [stpN, stp_zero, ih]
theorem stpN_add (m : Nat) : ∀ n r, stpN (m + n) r = stpN n (stpN m r) := by
  induction m with
  | zero => intro n r; simp [stpN]
  | succ m ih => intro n r; rw [show m + 1 + n = (m + n) + 1 by omega]; simp only [stpN, ih]
/-- A register with k lowest bits of 0 is only moved by k steps. -/
theorem stp_even {r : BitVec 32} (h : r.getLsbD 0 = false) : stp r = r >>> 1 := by unfold stp; rw [h]; simp [pick]
theorem stpN_even : ∀ (k : Nat) (r : BitVec 32), (∀ i, i < k → r.getLsbD i = false) → stpN k r = r >>> k := by
  intro k
  induction k with
  | zero => intro r _; simp [stpN]
  | succ k ih =>
    intro r h
    simp only [stpN]
    rw [stp_even (h 0 (by omega)), ih _ (fun i hi => by rw [BitVec.getLsbD_ushiftRight]; exact h _ (by omega)), ← BitVec.shiftRight_add, Nat.add_comm]
/-- The map loses nothing. -/
theorem stp_inj {r : BitVec 32} (h : stp r = 0#32) : r = 0#32 := by
  have h31 : (stp r).getLsbD 31 = r.getLsbD 0 := by
    unfold stp
    rw [BitVec.getLsbD_xor, BitVec.getLsbD_ushiftRight]
    have : r.getLsbD (1 + 31) = false := BitVec.getLsbD_of_ge _ _ (by decide)
    rw [this]
    cases r.getLsbD 0 <;> decide
  have h0 : r.getLsbD 0 = false := by rw [← h31, h]; decide
  have h1 : r >>> 1 = 0#32 := by rw [← stp_even h0, h]
  apply BitVec.eq_of_getLsbD_eq
  intro i hi
  rw [BitVec.getLsbD_zero]
  match i with
  | 0 => exact h0
  | i + 1 =>
    have := congrArg (fun x => x.getLsbD i) h1
    simpa [BitVec.getLsbD_ushiftRight, Nat.add_comm] using this
theorem stpN_inj (n : Nat) : ∀ {r : BitVec 32}, stpN n r = 0#32 → r = 0#32 := by
  induction n with
  | zero => intro r h; exact h
  | succ n ih => intro r h; exact stp_inj (ih h)
theorem stpN_ne {n : Nat} {r : BitVec 32} : stpN n r = 0#32 ↔ r = 0#32 := ⟨stpN_inj n, fun h => by rw [h, stpN_zero]⟩

/-! ### Bytes -/
def b32 (c : Int) : BitVec 32 := BitVec.ofInt 32 c
def stpc (r : BitVec 32) (c : Int) : BitVec 32 := stpN 8 (r ^^^ b32 c)
def run (r : BitVec 32) (l : List Int) : BitVec 32 := l.foldl stpc r
def upd (c : BitVec 32) (l : List Int) : BitVec 32 := ~~~(run (~~~c) l)
theorem run_append (r : BitVec 32) (a b : List Int) : run r (a ++ b) = run (run r a) b := by unfold run; rw [List.foldl_append]
theorem run_cons (r : BitVec 32) (c : Int) (l : List Int) : run r (c :: l) = run (stpc r c) l := rfl
theorem upd_append (c : BitVec 32) (a b : List Int) : upd c (a ++ b) = upd (upd c a) b := by unfold upd; rw [run_append, BitVec.not_not]
theorem run_shift (l : List Int) : ∀ r s : BitVec 32, run (r ^^^ s) l = stpN (8 * l.length) r ^^^ run s l := by
  induction l with
  | nil => intro r s; rfl
  | cons c l ih =>
    intro r s
    rw [run_cons, run_cons]
    have : stpc (r ^^^ s) c = stpN 8 r ^^^ stpc s c := by unfold stpc; rw [BitVec.xor_assoc, stpN_lin]
    rw [this, ih, List.length_cons, Nat.mul_succ, Nat.add_comm, stpN_add]
theorem run_far (l : List Int) (r : BitVec 32) : run r l = stpN (8 * l.length) r ^^^ run 0#32 l := by
  have := run_shift l r 0#32
  rwa [BitVec.xor_zero] at this
/-- The sum of two texts is put together. -/
theorem not_xor (a b : BitVec 32) : ~~~a ^^^ b = ~~~(a ^^^ b) := by
  rw [← BitVec.xor_allOnes, ← BitVec.xor_allOnes, BitVec.xor_assoc, BitVec.xor_assoc, BitVec.xor_comm b]
theorem combines (c : BitVec 32) (a b : List Int) : stpN (8 * b.length) (upd c a) ^^^ upd 0#32 b = upd c (a ++ b) := by
  unfold upd
  rw [run_append, run_far b (run (~~~c) a), run_far b (~~~0#32)]
  generalize run (~~~c) a = s
  generalize run 0#32 b = z
  have e : ~~~s = s ^^^ ~~~0#32 := by rw [show ~~~0#32 = BitVec.allOnes 32 by decide, BitVec.xor_allOnes]
  rw [e, stpN_lin]
  generalize stpN (8 * b.length) s = x
  generalize stpN (8 * b.length) (~~~0#32) = y
  rw [BitVec.xor_comm _ (~~~(y ^^^ z)), not_xor]
  congr 1
  rw [BitVec.xor_comm x y, BitVec.xor_assoc y z, ← BitVec.xor_assoc z, BitVec.xor_comm z y]
  simp only [BitVec.xor_assoc]
  rw [← BitVec.xor_assoc y y, BitVec.xor_self, BitVec.zero_xor, BitVec.xor_comm]
end Go.Proofs.Ytoiagpebfkignaa.Plain
