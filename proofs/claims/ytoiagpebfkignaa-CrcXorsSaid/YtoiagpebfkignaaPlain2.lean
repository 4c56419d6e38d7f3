/- Tables, bursts, xors and matrices of the sum; no program in sight; no condition. -/
import Derived.Test.YtoiagpebfkignaaPlain
namespace Go.Proofs.Ytoiagpebfkignaa.Plain
open Go

/-- A register is its lowest byte and the rest. -/
theorem split8 (r : BitVec 32) : r = (r &&& 0xFF#32) ^^^ ((r >>> 8) <<< 8) := by
  apply BitVec.eq_of_getLsbD_eq
  intro i hi
  rw [BitVec.getLsbD_xor, BitVec.getLsbD_and, BitVec.getLsbD_shiftLeft, BitVec.getLsbD_ushiftRight]
  by_cases h : i < 8
  · have : (0xFF#32).getLsbD i = true := by
      have : ∀ j : Fin 8, (0xFF#32).getLsbD j.val = true := by decide
      exact this ⟨i, h⟩
    simp [this, h]
  · have : (0xFF#32).getLsbD i = false := by
      have : ∀ j : Fin 32, 8 ≤ j.val → (0xFF#32).getLsbD j.val = false := by decide
      exact this ⟨i, hi⟩ (by show 8 ≤ i; omega)
    rw [this, show 8 + (i - 8) = i by omega]
    simp [h, hi]
theorem low_shl (r : BitVec 32) (k i : Nat) (h : i < k) : (r <<< k).getLsbD i = false := by
  rw [BitVec.getLsbD_shiftLeft]; simp [h]
theorem shr_shl_shr (r : BitVec 32) : ((r >>> 8) <<< 8) >>> 8 = r >>> 8 := by
  apply BitVec.eq_of_getLsbD_eq
  intro i hi
  simp only [BitVec.getLsbD_shiftLeft, BitVec.getLsbD_ushiftRight]
  by_cases h : 8 + i < 32
  · simp [h]
  · rw [BitVec.getLsbD_of_ge _ (8 + (8 + i - 8)) (by omega), BitVec.getLsbD_of_ge _ (8 + i) (by omega)]; simp
/-- A stpc by the table. -/
theorem stp8_table (r : BitVec 32) : stpN 8 r = stpN 8 (r &&& 0xFF#32) ^^^ (r >>> 8) := by
  have := congrArg (stpN 8) (split8 r)
  rw [stpN_lin] at this
  rw [this, stpN_even 8 ((r >>> 8) <<< 8) (fun i hi => low_shl _ _ _ hi), shr_shl_shr]
theorem b32_nat (n : Nat) : b32 (n : Int) = BitVec.ofNat 32 n := by unfold b32; rw [BitVec.ofInt_natCast]
/-- What stands in the table at i. -/
def tab (i : Nat) : BitVec 32 := stpN 8 (BitVec.ofNat 32 i)
theorem and_nat8 (r : BitVec 32) : r &&& 0xFF#32 = BitVec.ofNat 32 (r.toNat % 256) := by
  apply BitVec.eq_of_toNat_eq
  have : (0xFF#32).toNat = 2 ^ 8 - 1 := by decide
  rw [BitVec.toNat_and, this, BitVec.toNat_ofNat, Nat.and_two_pow_sub_one_eq_mod]
  have := r.isLt
  omega
theorem stp8_tab (r : BitVec 32) : stpN 8 r = (r >>> 8) ^^^ tab (r.toNat % 256) := by
  rw [stp8_table, and_nat8, BitVec.xor_comm]; rfl
theorem shr8_byte {n : Nat} (h : n < 256) : (BitVec.ofNat 32 n) >>> 8 = 0#32 := by
  apply BitVec.eq_of_toNat_eq
  rw [BitVec.toNat_ushiftRight, BitVec.toNat_ofNat, Nat.shiftRight_eq_div_pow]
  simp; omega
theorem step_tab (r : BitVec 32) (n : Nat) (h : n < 256) : stpc r (n : Int) = (r >>> 8) ^^^ tab ((r.toNat % 256) ^^^ n) := by
  unfold stpc
  rw [b32_nat, stp8_tab, BitVec.ushiftRight_xor_distrib, shr8_byte h, BitVec.xor_zero]
  congr 2
  rw [BitVec.toNat_xor, BitVec.toNat_ofNat, Nat.mod_eq_of_lt (show n < 2 ^ 32 by omega)]
  have := Nat.xor_mod_two_pow (a := r.toNat) (b := n) (n := 8)
  rw [show 2 ^ 8 = 256 from rfl] at this
  rw [this, Nat.mod_eq_of_lt h]

/-! ### Eight bytes at a time -/
/-- What stands in the table k at i. -/
def tabs (k i : Nat) : BitVec 32 := stpN (8 * (k + 1)) (BitVec.ofNat 32 i)
theorem tabs_zero (i : Nat) : tabs 0 i = tab i := rfl
theorem tabs_succ (k i : Nat) : tabs (k + 1) i = ((tabs k i) >>> 8) ^^^ tab ((tabs k i).toNat % 256) := by
  rw [← stp8_tab]
  unfold tabs
  rw [show 8 * (k + 1 + 1) = 8 * (k + 1) + 8 by omega, stpN_add]
theorem stp_shl {n : Nat} (r : BitVec 32) (k : Nat) (h : ∀ i, 32 - k ≤ i → r.getLsbD i = false) (hk : k ≤ 32) (hn : k ≤ n) : stpN n (r <<< k) = stpN (n - k) r := by
  rw [show n = k + (n - k) by omega, stpN_add, stpN_even k _ (fun i hi => low_shl _ _ _ hi), show k + (n - k) - k = n - k by omega]
  congr 1
  apply BitVec.eq_of_getLsbD_eq
  intro i hi
  rw [BitVec.getLsbD_ushiftRight, BitVec.getLsbD_shiftLeft]
  by_cases h2 : k + i < 32
  · simp [h2, show k + i - k = i by omega]
  · rw [h i (by omega)]; simp [h2]
theorem byte_high {n : Nat} (h : n < 256) (i : Nat) (hi : 8 ≤ i) : (BitVec.ofNat 32 n).getLsbD i = false := by
  rw [BitVec.getLsbD_ofNat, Nat.testBit_lt_two_pow (Nat.lt_of_lt_of_le h (show 2 ^ 8 ≤ 2 ^ i from Nat.pow_le_pow_right (by decide) hi))]
  simp
theorem byte_shl {n k m : Nat} (h : m < 256) (hk : k ≤ 24) (hn : k ≤ n) : stpN n (BitVec.ofNat 32 m <<< k) = stpN (n - k) (BitVec.ofNat 32 m) :=
  stp_shl _ k (fun i hi => byte_high h i (by omega)) (by omega) hn
/-- The register is its four bytes. -/
theorem split32 (x : BitVec 32) : x = BitVec.ofNat 32 (x.toNat % 256) ^^^ (BitVec.ofNat 32 ((x >>> 8).toNat % 256) <<< 8) ^^^ (BitVec.ofNat 32 ((x >>> 16).toNat % 256) <<< 16) ^^^ (BitVec.ofNat 32 ((x >>> 24).toNat % 256) <<< 24) := by
  rw [← and_nat8, ← and_nat8, ← and_nat8, ← and_nat8]
  have h1 := split8 x
  have h2 := split8 (x >>> 8)
  have h3 := split8 (x >>> 16)
  have h4 : (x >>> 24) &&& 0xFF#32 = x >>> 24 := by
    apply BitVec.eq_of_toNat_eq
    rw [and_nat8, BitVec.toNat_ofNat, BitVec.toNat_ushiftRight, Nat.shiftRight_eq_div_pow]
    have := x.isLt
    omega
  rw [h4]
  have e16 : x >>> 8 >>> 8 = x >>> 16 := by rw [← BitVec.shiftRight_add]
  have e24 : x >>> 16 >>> 8 = x >>> 24 := by rw [← BitVec.shiftRight_add]
  rw [e16] at h2
  rw [e24] at h3
  have s1 : ∀ a b : BitVec 32, (a ^^^ b) <<< 8 = a <<< 8 ^^^ b <<< 8 := fun a b => BitVec.shiftLeft_xor_distrib ..
  have s2 : ∀ a : BitVec 32, a <<< 8 <<< 8 = a <<< 16 := fun a => by rw [← BitVec.shiftLeft_add]
  have s3 : ∀ a : BitVec 32, a <<< 16 <<< 8 = a <<< 24 := fun a => by rw [← BitVec.shiftLeft_add]
  calc x = (x &&& 0xFF#32) ^^^ ((x >>> 8) <<< 8) := h1
    _ = (x &&& 0xFF#32) ^^^ ((((x >>> 8) &&& 0xFF#32) ^^^ ((((x >>> 16) &&& 0xFF#32) ^^^ ((x >>> 24) <<< 8)) <<< 8)) <<< 8) := by rw [← h3, ← h2]
    _ = _ := by simp only [s1, s2, s3, BitVec.xor_assoc]
theorem stp64 (x : BitVec 32) : stpN 64 x = tabs 7 (x.toNat % 256) ^^^ tabs 6 ((x >>> 8).toNat % 256) ^^^ tabs 5 ((x >>> 16).toNat % 256) ^^^ tabs 4 ((x >>> 24).toNat % 256) := by
  have m : ∀ n : Nat, n % 256 < 256 := fun n => Nat.mod_lt _ (by decide)
  have := congrArg (stpN 64) (split32 x)
  rw [stpN_lin, stpN_lin, stpN_lin, byte_shl (m _) (by decide) (by decide), byte_shl (m _) (by decide) (by decide), byte_shl (m _) (by decide) (by decide)] at this
  exact this
theorem step_nat (r : BitVec 32) (n : Nat) : stpc r (n : Int) = stpN 8 (r ^^^ BitVec.ofNat 32 n) := by unfold stpc; rw [b32_nat]
/-- Eight bytes at once. -/
theorem run8 (r : BitVec 32) (b0 b1 b2 b3 b4 b5 b6 b7 : Nat) (h1 : b1 < 256) (h2 : b2 < 256) (h3 : b3 < 256) :
    run r [(b0 : Int), b1, b2, b3, b4, b5, b6, b7] =
      (((stpN 64 (r ^^^ (BitVec.ofNat 32 b0 ^^^ BitVec.ofNat 32 b1 <<< 8 ^^^ BitVec.ofNat 32 b2 <<< 16 ^^^ BitVec.ofNat 32 b3 <<< 24)) ^^^ tabs 3 b4) ^^^ tabs 2 b5) ^^^ tabs 1 b6) ^^^ tabs 0 b7 := by
  have e : ∀ (s : BitVec 32) (n : Nat), stpN 8 (s ^^^ BitVec.ofNat 32 n) = stpN 8 s ^^^ stpN 8 (BitVec.ofNat 32 n) := fun s n => stpN_lin 8 _ _
  have a : ∀ (m : Nat) (s : BitVec 32), stpN 8 (stpN m s) = stpN (m + 8) s := fun m s => (stpN_add m 8 s).symm
  simp only [run, List.foldl_cons, List.foldl_nil, step_nat, stpN_lin, a, tabs]
  rw [byte_shl h1 (by decide) (by decide), byte_shl h2 (by decide) (by decide), byte_shl h3 (by decide) (by decide)]
  simp only [BitVec.xor_assoc]
end Go.Proofs.Ytoiagpebfkignaa.Plain
