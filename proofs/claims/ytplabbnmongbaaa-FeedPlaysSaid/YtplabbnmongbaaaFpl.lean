/- The plain law of the document's answers for feeds: bits as a text, a text's bits as a number and as bytes. -/
import Derived.Test.YtplabbnmongbaaaSt
import Derived.Test.YtplabbnmongbaaaFeedRef
import Derived.Test.YtplabbnmongbaaaWMore
namespace Go.Proofs.Ytplabbnmongbaaa.Walks
open Go Go.RowKit Go.Proofs.Ytplabbnmongbaaa.Aid Go.Proofs.YtplabbnmongbaaaW.PrintWords Go.Proofs.YtplabbnmongbaaaW.PrintMore

/-- All the bits, as bytes '0' and '1'. -/
def chars (P : List Int) : List Int := (List.range (8 * P.length)).map (fun j => 48 + bitP P j)
theorem chars_length (P : List Int) : (chars P).length = 8 * P.length := by simp [chars]
theorem chars_get (P : List Int) {j : Nat} (h : j < 8 * P.length) : (chars P)[j]? = some (48 + bitP P j) := by simp [chars, h]
theorem chars_append (P m : List Int) : chars (P ++ m) = chars P ++ chars m := by
  apply List.ext_getElem?
  intro j
  by_cases h1 : j < 8 * P.length
  · rw [chars_get _ (by simp; omega), List.getElem?_append_left (by rw [chars_length]; exact h1), chars_get _ h1]
    unfold bitP
    rw [List.getD_eq_getElem?_getD, List.getD_eq_getElem?_getD, List.getElem?_append_left (by omega)]
  · rw [List.getElem?_append_right (by rw [chars_length]; omega), chars_length]
    by_cases h2 : j < 8 * (P.length + m.length)
    · rw [chars_get _ (by simp; omega), chars_get _ (by omega)]
      unfold bitP
      rw [List.getD_eq_getElem?_getD, List.getD_eq_getElem?_getD, List.getElem?_append_right (by omega), show (j - 8 * P.length) / 8 = j / 8 - P.length by omega, show (j - 8 * P.length) % 8 = j % 8 by omega]
    · rw [List.getElem?_eq_none (by rw [chars_length]; simp; omega), List.getElem?_eq_none (by rw [chars_length]; omega)]
theorem str_append (a b : List Int) : strOfNums a ++ strOfNums b = strOfNums (a ++ b) := by
  apply ByteArray.ext
  apply Array.ext'
  rw [ByteArray.data_append, Array.toList_append, strOfNums_data, strOfNums_data, strOfNums_data, List.map_append]

/-! ### Of -/
theorem bit_of {P : List Int} {i : Nat} (hi : i < 8 * P.length) (hl : P.length ≤ 1000) :
    (48 + (Go.bits .and .u8 (shr .u8 (rd P (wrap64 (Int.tdiv (i : Int) 8))) (IntKind.u64.wrap (Int.tmod (i : Int) 8))) 1)) % 256 = 48 + bitP P i := by
  have e1 : wrap64 (Int.tdiv (i : Int) 8) = ((i / 8 : Nat) : Int) := by rw [Int.tdiv_eq_ediv_of_nonneg (by omega), wrap64_in (by omega) (by omega)]; omega
  have e2 : IntKind.u64.wrap (Int.tmod (i : Int) 8) = ((i % 8 : Nat) : Int) := by rw [Int.tmod_eq_emod_of_nonneg (by omega), u64_in (by omega) (by omega)]; omega
  have hm : ∀ x, Go.bits .and .u8 x 1 = x % 2 := fun x => mask_any stays_u8 (i := 1) (by decide) x
  rw [e1, e2, hm]
  have e3 : shr .u8 (rd P ((i / 8 : Nat) : Int)) ((i % 8 : Nat) : Int) = P.getD (i / 8) 0 / 2 ^ (i % 8) := by
    unfold shr rd
    rw [Int.toNat_natCast, Int.toNat_natCast, Nat.min_eq_left (by show i % 8 ≤ 8; omega)]
  rw [e3]
  have := bitP_b P i
  unfold bitP at this ⊢
  omega
theorem of_l0 (P : List Int) (hl : P.length ≤ 1000) (m : Nat) : ∀ (i k : Nat), i + m = 8 * P.length → m < k →
    PFeedPlays.stevedoreref5_Of.l0 k P ((chars P).take i ++ List.replicate m 0) (i : Int) = some (strOfNums (chars P)) := by
  induction m with
  | zero =>
    intro i k hi hk
    cases k with
    | zero => omega
    | succ k =>
      simp only [PFeedPlays.stevedoreref5_Of.l0]
      have hlen : ((chars P).take i ++ List.replicate 0 0).length = 8 * P.length := by simp [chars_length]; omega
      rw [hlen, if_neg (by omega), List.take_of_length_le (by rw [chars_length]; omega)]
      simp
  | succ m ih =>
    intro i k hi hk
    cases k with
    | zero => omega
    | succ k =>
      simp only [PFeedPlays.stevedoreref5_Of.l0]
      have hlen : ((chars P).take i ++ List.replicate (m + 1) 0).length = 8 * P.length := by simp [chars_length]; omega
      have e1 : wrap64 (Int.tdiv (i : Int) 8) = ((i / 8 : Nat) : Int) := by rw [Int.tdiv_eq_ediv_of_nonneg (by omega), wrap64_in (by omega) (by omega)]; omega
      have e2 : IntKind.u64.wrap (Int.tmod (i : Int) 8) = ((i % 8 : Nat) : Int) := by rw [Int.tmod_eq_emod_of_nonneg (by omega), u64_in (by omega) (by omega)]; omega
      rw [hlen, if_pos (by omega), bit_of (by omega) hl, e1, e2, if_pos (by omega), if_pos (by omega), if_pos (by omega), if_pos (by omega), wrap64_in (by omega) (by omega)]
      have := ih (i + 1) k (by omega) (by omega)
      rw [Int.toNat_natCast]
      have hs : ((chars P).take i ++ List.replicate (m + 1) 0).set i (48 + bitP P i) = (chars P).take (i + 1) ++ List.replicate m 0 := by
        have hli : ((chars P).take i).length = i := by rw [List.length_take, chars_length]; omega
        rw [List.take_add_one, chars_get _ (by omega), List.set_append_right _ _ (by omega), hli, Nat.sub_self, List.replicate_succ, List.set_cons_zero]
        simp
      rw [hs]
      exact this
theorem of_plain (P : List Int) (hl : P.length ≤ 1000) : PFeedPlays.stevedoreref5_Of.f (8 * P.length + 1) P = some (strOfNums (chars P)) := by
  unfold PFeedPlays.stevedoreref5_Of.f
  have e : wrap64 (8 * (P.length : Int)) = ((8 * P.length : Nat) : Int) := by rw [wrap64_in (by omega) (by omega)]; omega
  rw [e, if_pos (by omega), if_pos (by omega), Int.toNat_natCast]
  have := of_l0 P hl (8 * P.length) 0 (8 * P.length + 1) (by omega) (by omega)
  simpa using this

/-! ### Number -/
theorem or_low {v b : Int} (h0 : 0 ≤ v) (h1 : v < 2147483648) (hb : b = 0 ∨ b = 1) : Go.bits .or .u32 (v * 2) b = v * 2 + b := by
  obtain ⟨n, rfl⟩ := Int.eq_ofNat_of_zero_le h0
  obtain ⟨c, rfl, hc⟩ : ∃ c : Nat, b = (c : Int) ∧ c < 2 := ⟨b.toNat, by omega, by omega⟩
  have h := or_nat stays_u32 (a := 2 * n) (b := c) (by omega) (by omega)
  have e := Nat.two_pow_add_eq_or_of_lt (i := 1) (show c < 2 ^ 1 by omega) n
  rw [Nat.pow_one] at e
  rw [← e] at h
  rw [show ((n : Int) * 2) = ((2 * n : Nat) : Int) by omega, h]
  omega
theorem number_l0 (P : List Int) (at_ n : Nat) (hn : n ≤ 32) (t : ByteArray) (hs : t.size = n) (hb : ∀ i, i < n → bt t (i : Int) = 48 + bitP P (at_ + i)) (m : Nat) :
    ∀ (v : Int) (k : Nat), m ≤ n → m < k → 0 ≤ v → v * 2 ^ m + pkN P at_ m = pkN P at_ n → PFeedPlays.stevedoreref5_Number.l0 k t v ((m : Int) - 1) = some (pkN P at_ n) := by
  induction m with
  | zero =>
    intro v k _ hk _ hv
    cases k with
    | zero => omega
    | succ k =>
      simp only [PFeedPlays.stevedoreref5_Number.l0]
      rw [if_neg (by omega), ← hv]
      simp [pkN]
  | succ m ih =>
    intro v k hm hk h0 hv
    cases k with
    | zero => omega
    | succ k =>
      simp only [PFeedPlays.stevedoreref5_Number.l0]
      have hb1 := bitP_b P (at_ + m)
      have hp := pkN_b P at_ n
      have hp1 := pkN_b P at_ (m + 1)
      have hvb : v < 2147483648 := by
        have h2 : (2 : Int) ^ n ≤ 4294967296 := by
          have e32 : (2 : Int) ^ 32 = 4294967296 := by decide
          have h9 : (2 : Int) ^ n ≤ 2 ^ 32 := by exact_mod_cast Nat.pow_le_pow_right (n := 2) (by decide) hn
          omega
        have h3 : v * 2 ^ (m + 1) < 4294967296 := by omega
        have h4 : (2 : Int) ≤ 2 ^ (m + 1) := by
          have := Nat.pow_le_pow_right (n := 2) (by decide) (show 1 ≤ m + 1 by omega)
          exact_mod_cast this
        have h5 : v * 2 ≤ v * 2 ^ (m + 1) := Int.mul_le_mul_of_nonneg_left h4 h0
        omega
      rw [show ((m + 1 : Nat) : Int) - 1 = (m : Int) by omega, if_pos (by omega), if_pos (by omega), hs, if_pos (by omega), hb m (by omega), wrap64_in (by omega) (by omega),
        show (v * 2) % 4294967296 = v * 2 by omega, show (48 + bitP P (at_ + m) - 48) % 256 = bitP P (at_ + m) by omega, or_low h0 hvb (by omega)]
      refine ih _ k (by omega) (by omega) (by omega) ?_
      rw [← hv, show pkN P at_ (m + 1) = pkN P at_ m + bitP P (at_ + m) * 2 ^ m from rfl, Int.pow_succ, Int.add_mul]
      have e1 : v * 2 * 2 ^ m = v * (2 ^ m * 2) := by rw [Int.mul_assoc, Int.mul_comm 2]
      rw [e1]
      omega
theorem number_plain (P : List Int) (at_ n : Nat) (hn : n ≤ 32) (t : ByteArray) (hs : t.size = n) (hb : ∀ i, i < n → bt t (i : Int) = 48 + bitP P (at_ + i)) : PFeedPlays.stevedoreref5_Number.f 33 t = some (pkN P at_ n) := by
  unfold PFeedPlays.stevedoreref5_Number.f
  rw [hs, wrap64_in (by omega) (by omega)]
  refine number_l0 P at_ n hn t hs hb n 0 33 (Nat.le_refl _) (by omega) (by omega) ?_
  rw [Int.zero_mul, Int.zero_add]
end Go.Proofs.Ytplabbnmongbaaa.Walks
