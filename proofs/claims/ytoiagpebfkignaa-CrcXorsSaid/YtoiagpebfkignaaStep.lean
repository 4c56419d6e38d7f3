/- The walks' numbers as 32 bits; what 'step' comes to. -/
import Derived.Test.YtoiagpebfkignaaPlain3
import Derived.Test.YtoiagpebfkignaaAid
import Derived.Test.YtoiagpebfkignaaOnly
import Derived.Test.YtoiagpebfkignaaPCrcSumsx1
namespace Go.Proofs.Ytoiagpebfkignaa.Walks
open Go Go.RowKit Go.Proofs.Ytoiagpebfkignaa.Aid Go.Proofs.Ytoiagpebfkignaa.Plain Go.Proofs.YtoiagpebfkignaaW.PrintWords

/-- The number of 32 bits. -/
def nu (r : BitVec 32) : Int := (r.toNat : Int)
theorem nu_b (r : BitVec 32) : 0 ≤ nu r ∧ nu r < 4294967296 := by have := r.isLt; unfold nu; omega
theorem nu_inj {r s : BitVec 32} : nu r = nu s ↔ r = s := by
  unfold nu
  constructor
  · intro h; exact BitVec.eq_of_toNat_eq (by omega)
  · intro h; rw [h]
theorem nu_of {x : Int} (h0 : 0 ≤ x) (h1 : x < 4294967296) : nu (BitVec.ofInt 32 x) = x := by
  obtain ⟨n, rfl⟩ := Int.eq_ofNat_of_zero_le h0
  unfold nu
  rw [BitVec.ofInt_natCast, BitVec.toNat_ofNat, Nat.mod_eq_of_lt (by omega)]
theorem nu_xor (a b : BitVec 32) : Go.bits .xor .u32 (nu a) (nu b) = nu (a ^^^ b) := by
  unfold nu
  rw [xor_nat stays_u32 a.isLt b.isLt, BitVec.toNat_xor]
theorem nu_not (a : BitVec 32) : Go.bits .xor .u32 4294967295 (nu a) = nu (~~~a) := by
  rw [show (4294967295 : Int) = nu (BitVec.allOnes 32) by decide, nu_xor, BitVec.xor_comm, BitVec.xor_allOnes]
theorem nu_shr (a : BitVec 32) (k : Nat) (m : Int) (hm : m = ((2 ^ k : Nat) : Int)) : nu a / m = nu (a >>> k) := by
  unfold nu
  rw [BitVec.toNat_ushiftRight, Nat.shiftRight_eq_div_pow, hm]
  norm_cast
theorem nu_b32 {c : Int} (h0 : 0 ≤ c) (h1 : c < 256) : nu (b32 c) = c := nu_of h0 (by omega)
theorem nu_odd (a : BitVec 32) : (Go.bits .and .u32 (nu a) 1 = 1) ↔ a.getLsbD 0 = true := by
  rw [and1_u32]
  unfold nu
  rw [BitVec.getLsbD, Nat.testBit_zero]
  simp only [decide_eq_true_eq]
  omega
theorem nu_step_on {a : BitVec 32} (h : a.getLsbD 0 = true) : Go.bits .xor .u32 (nu a / 2) 3988292384 = nu (stp a) := by
  rw [nu_shr a 1 2 rfl, show (3988292384 : Int) = nu poly by decide, nu_xor]
  unfold stp; rw [h]; rfl
theorem nu_step_off {a : BitVec 32} (h : a.getLsbD 0 = false) : nu a / 2 = nu (stp a) := by
  rw [nu_shr a 1 2 rfl, stp_even h]

theorem step_l0 (m : Nat) : ∀ (r : BitVec 32) (i : Int) (k : Nat), m ≤ 8 → i = 8 - (m : Int) → m < k → PCrcSums.crc_step.l0 k (nu r) i = some (nu (stpN m r)) := by
  induction m with
  | zero =>
    intro r i k hm hi hk
    cases k with
    | zero => omega
    | succ k => simp only [PCrcSums.crc_step.l0]; rw [if_neg (by omega)]; rfl
  | succ m ih =>
    intro r i k hm hi hk
    cases k with
    | zero => omega
    | succ k =>
      simp only [PCrcSums.crc_step.l0]
      by_cases h8 : i < 8
      · rw [if_pos h8, wrap64_in (by omega) (by omega)]
        cases h : r.getLsbD 0 with
        | true => rw [if_pos ((nu_odd r).2 h), nu_step_on h, ih _ _ _ (by omega) (by omega) (by omega)]; rfl
        | false => rw [if_neg (fun e => by rw [nu_odd, h] at e; cases e), nu_step_off h, ih _ _ _ (by omega) (by omega) (by omega)]; rfl
      · omega
theorem step_f (r : BitVec 32) (c : Int) (h0 : 0 ≤ c) (h1 : c < 256) : ∃ k, PCrcSums.crc_step.f k (nu r) c = some (nu (stpc r c)) := by
  refine ⟨9, ?_⟩
  unfold PCrcSums.crc_step.f
  rw [show c % 4294967296 = nu (b32 c) by rw [nu_b32 h0 h1]; omega, nu_xor, step_l0 8 _ _ _ (by decide) (by decide) (by decide)]
  rfl
def StepPost (r : BitVec 32) (c : Int) (w : World) (e : Ending) (w' : World) : Prop := e = .returned (.int .u32 (nu (stpc r c))) ∧ ∃ n, w' = w.drewN n
theorem step_any (r : BitVec 32) (c : Int) (h0 : 0 ≤ c) (h1 : c < 256) (w : World) : Calls Try.prog 15 #[.int .u32 (nu r), .int .u8 c] w (StepPost r c w) := by
  obtain ⟨k, hk⟩ := step_f r c h0 h1
  exact (PCrcSums.crc_step.calls k _ _ _ w hk).mono (fun _ _ h => ⟨h.1, h.2.out⟩)
end Go.Proofs.Ytoiagpebfkignaa.Walks
