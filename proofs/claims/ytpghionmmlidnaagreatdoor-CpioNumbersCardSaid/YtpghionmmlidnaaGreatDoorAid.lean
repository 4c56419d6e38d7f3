/- Plain lemmas on whole numbers, lists and bits; no condition beyond those that each lemma names. -/
import Derived.WalkKit
import Derived.Laws.BitsLemmas
import Derived.RowKit
namespace Go.Proofs.YtpghionmmlidnaaGreatDoor.Aid
open Go Go.RowKit

theorem u8_b {x : Int} (h : (Lit.int .u8 x).wf = true) : 0 ≤ x ∧ x < 256 := by
  simp [Lit.wf, IntKind.min, IntKind.max, IntKind.bits, IntKind.signed] at h; omega
theorem u16_b {x : Int} (h : (Lit.int .u16 x).wf = true) : 0 ≤ x ∧ x < 65536 := by
  simp [Lit.wf, IntKind.min, IntKind.max, IntKind.bits, IntKind.signed] at h; omega
theorem u32_b {x : Int} (h : (Lit.int .u32 x).wf = true) : 0 ≤ x ∧ x < 4294967296 := by
  simp [Lit.wf, IntKind.min, IntKind.max, IntKind.bits, IntKind.signed] at h; omega
theorem u64_b {x : Int} (h : (Lit.int .u64 x).wf = true) : 0 ≤ x ∧ x < 18446744073709551616 := by
  simp [Lit.wf, IntKind.min, IntKind.max, IntKind.bits, IntKind.signed] at h; omega
theorem i64_b {x : Int} (h : (Lit.int .i64 x).wf = true) : -9223372036854775808 ≤ x ∧ x < 9223372036854775808 := by
  simp [Lit.wf, IntKind.min, IntKind.max, IntKind.bits, IntKind.signed] at h; omega

theorem wrap64_in {x : Int} (h0 : -9223372036854775808 ≤ x) (h1 : x < 9223372036854775808) : wrap64 x = x := by
  unfold wrap64; omega
theorem u64_wrap (x : Int) : IntKind.u64.wrap x = x % 18446744073709551616 := by simp [IntKind.wrap, IntKind.bits, IntKind.signed]
theorem u64_in {x : Int} (h0 : 0 ≤ x) (h1 : x < 18446744073709551616) : IntKind.u64.wrap x = x := by rw [u64_wrap]; omega
theorem u32_in {x : Int} (h0 : 0 ≤ x) (h1 : x < 4294967296) : IntKind.u32.wrap x = x := by rw [IntKind.wrap_u32]; omega
theorem u8_in {x : Int} (h0 : 0 ≤ x) (h1 : x < 256) : IntKind.u8.wrap x = x := by rw [IntKind.wrap_u8]; omega

/-- Below 2^j, j at most the kind's bits, a number stays. -/
def Stays (k : IntKind) (j : Nat) : Prop := j ≤ k.bits ∧ ∀ n : Int, 0 ≤ n → n < 2 ^ j → k.wrap n = n
theorem stays_u8 : Stays .u8 8 := ⟨by decide, fun n a b => u8_in a (by omega)⟩
theorem stays_u32 : Stays .u32 32 := ⟨by decide, fun n a b => u32_in a (by omega)⟩
theorem stays_u64 : Stays .u64 64 := ⟨by decide, fun n a b => u64_in a (by omega)⟩
theorem stays_i64 : Stays .i64 63 := ⟨by decide, fun n a b => by rw [IntKind.wrap_i64]; omega⟩

theorem and_nat {k : IntKind} {j : Nat} (s : Stays k j) {a b : Nat} (ha : a < 2 ^ j) (hb : b < 2 ^ j) : Go.bits .and k a b = ((a &&& b : Nat) : Int) := (bits_nat k j s.1 s.2 a b ha hb).1
theorem or_nat {k : IntKind} {j : Nat} (s : Stays k j) {a b : Nat} (ha : a < 2 ^ j) (hb : b < 2 ^ j) : Go.bits .or k a b = ((a ||| b : Nat) : Int) := (bits_nat k j s.1 s.2 a b ha hb).2
theorem xor_nat {k : IntKind} {j : Nat} (s : Stays k j) {a b : Nat} (ha : a < 2 ^ j) (hb : b < 2 ^ j) : Go.bits .xor k a b = ((a ^^^ b : Nat) : Int) := by
  have hp : 2 ^ j ≤ 2 ^ k.bits := Nat.pow_le_pow_right (by decide) s.1
  have ha' : a % 2 ^ k.bits = a := Nat.mod_eq_of_lt (Nat.lt_of_lt_of_le ha hp)
  have hb' : b % 2 ^ k.bits = b := Nat.mod_eq_of_lt (Nat.lt_of_lt_of_le hb hp)
  simp only [bits, BitVec.ofInt_natCast, BitVec.toNat_xor, BitVec.toNat_ofNat, ha', hb']
  exact s.2 _ (Int.natCast_nonneg _) (by exact_mod_cast Nat.xor_lt_two_pow ha hb)

/-- A mask of the lowest i bits, whatever the number's sign. -/
theorem mask_any {k : IntKind} {j : Nat} (s : Stays k j) {i : Nat} (hi : i ≤ j) (x : Int) : Go.bits .and k x (2 ^ i - 1) = x % 2 ^ i := by
  have hpos : 0 < 2 ^ i := Nat.two_pow_pos i
  have hc : ((2 : Int) ^ i - 1) = ((2 ^ i - 1 : Nat) : Int) := by rw [Int.natCast_sub hpos]; simp
  have hik : i ≤ k.bits := Nat.le_trans hi s.1
  have hm : 2 ^ i - 1 < 2 ^ k.bits := Nat.lt_of_lt_of_le (Nat.sub_lt hpos (by decide)) (Nat.pow_le_pow_right (by decide) hik)
  have e : ((BitVec.ofInt k.bits x &&& BitVec.ofInt k.bits (2 ^ i - 1)).toNat : Int) = x % 2 ^ i := by
    rw [hc, BitVec.ofInt_natCast, BitVec.toNat_and, BitVec.toNat_ofNat, Nat.mod_eq_of_lt hm, Nat.and_two_pow_sub_one_eq_mod, BitVec.toNat_ofInt]
    have h2 : (2 : Int) ^ i ∣ 2 ^ k.bits := by
      obtain ⟨d, hd⟩ := Nat.exists_eq_add_of_le hik
      exact ⟨2 ^ d, by rw [hd, Int.pow_add]⟩
    have hp : (0 : Int) < 2 ^ k.bits := Int.pow_pos (by decide)
    have hn : 0 ≤ x % (2 ^ k.bits : Int) := Int.emod_nonneg _ (by omega)
    simp only [Int.natCast_emod, Int.natCast_pow]
    rw [Int.toNat_of_nonneg (by simpa using hn)]
    push_cast
    rw [Int.emod_emod_of_dvd _ h2]
  unfold bits
  simp only
  rw [e]
  refine s.2 _ (Int.emod_nonneg _ (by have : (0:Int) < 2 ^ i := Int.pow_pos (by decide); omega)) ?_
  have h1 : x % (2 : Int) ^ i < 2 ^ i := Int.emod_lt_of_pos _ (Int.pow_pos (by decide))
  have h2 : (2 : Int) ^ i ≤ 2 ^ j := by exact_mod_cast Nat.pow_le_pow_right (by decide) hi
  omega

theorem and15_i64 (x : Int) : Go.bits .and .i64 x 15 = x % 16 := mask_any stays_i64 (i := 4) (by decide) x
theorem and31_i64 (x : Int) : Go.bits .and .i64 x 31 = x % 32 := mask_any stays_i64 (i := 5) (by decide) x
theorem and127_i64 (x : Int) : Go.bits .and .i64 x 127 = x % 128 := mask_any stays_i64 (i := 7) (by decide) x
theorem and63_i64 (x : Int) : Go.bits .and .i64 x 63 = x % 64 := mask_any stays_i64 (i := 6) (by decide) x
theorem andFFFF_u32 (x : Int) : Go.bits .and .u32 x 65535 = x % 65536 := mask_any stays_u32 (i := 16) (by decide) x
theorem and1_u32 (x : Int) : Go.bits .and .u32 x 1 = x % 2 := mask_any stays_u32 (i := 1) (by decide) x
theorem or_u32_16 {x y : Int} (hx₀ : 0 ≤ x) (hx : x % 65536 = 0) (hx₁ : x < 4294967296) (h₀ : 0 ≤ y) (h₁ : y < 65536) : Go.bits .or .u32 x y = x + y :=
  bits_join .u32 32 (by decide) stays_u32.2 16 x y hx₀ hx hx₁ h₀ h₁ (by omega)

theorem once {α : Type} {g : Nat → Option α} {r : α} (h : ∃ K, ∀ k, K ≤ k → g k = some r) : ∃ k, g k = some r := ⟨h.choose, h.choose_spec _ (Nat.le_refl _)⟩
theorem tmod_pos {x m : Int} (h : 0 ≤ x) : Int.tmod x m = x % m := Int.tmod_eq_emod_of_nonneg h

end Go.Proofs.YtpghionmmlidnaaGreatDoor.Aid
