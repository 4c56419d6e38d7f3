/- Contract of the reference's Bytes. -/
import Derived.Test.YtplabbnmongbaaaFpl
import Derived.Test.YtplabbnmongbaaaOwnB
namespace Go.Proofs.Ytplabbnmongbaaa.Walks
open Go Go.RowKit Go.Proofs.Ytplabbnmongbaaa.Aid Go.Proofs.Ytplabbnmongbaaa.Own Go.Proofs.YtplabbnmongbaaaW.PrintWords

/-- The bytes that are got out of the bits from the byte q on, behind i bits. -/
def outs (P : List Int) (q N i : Nat) : List Int := (List.range N).map (fun j => pkN P (8 * (q + j)) (min 8 (i - 8 * j)))
theorem outs_length (P : List Int) (q N i : Nat) : (outs P q N i).length = N := by simp [outs]
theorem outs_get (P : List Int) (q N i : Nat) {j : Nat} (h : j < N) : (outs P q N i)[j]? = some (pkN P (8 * (q + j)) (min 8 (i - 8 * j))) := by simp [outs, h]
theorem outs_zero (P : List Int) (q N : Nat) : outs P q N 0 = List.replicate N 0 := by
  apply List.ext_getElem?
  intro j
  by_cases h : j < N
  · rw [outs_get _ _ _ _ h, List.getElem?_replicate, if_pos h]; simp [pkN]
  · rw [List.getElem?_eq_none (by rw [outs_length]; omega), List.getElem?_eq_none (by simp; omega)]
theorem or_bit8 {v b : Int} {j : Nat} (hj : j < 8) (h0 : 0 ≤ v) (h1 : v < 2 ^ j) (hb : b = 0 ∨ b = 1) : Go.bits .or .u8 v (b * 2 ^ j % 256) = v + b * 2 ^ j := by
  obtain ⟨a, rfl⟩ := Int.eq_ofNat_of_zero_le h0
  have ha : a < 2 ^ j := by exact_mod_cast h1
  have hp2 : 2 ^ j < 2 ^ 8 := Nat.pow_lt_pow_right (by decide) hj
  have e8 : (2 : Nat) ^ 8 = 256 := by decide
  obtain ⟨c, rfl, hc⟩ : ∃ c : Nat, b = (c : Int) ∧ c < 2 := ⟨b.toNat, by omega, by omega⟩
  have hcm : c * 2 ^ j < 256 := by
    rcases (show c = 0 ∨ c = 1 by omega) with rfl | rfl <;> omega
  have e1 : ((c : Int) * 2 ^ j % 256) = ((c * 2 ^ j : Nat) : Int) := by
    have : ((c : Int) * 2 ^ j) = ((c * 2 ^ j : Nat) : Int) := by push_cast; rfl
    rw [this]
    omega
  have e2 : a ||| c * 2 ^ j = a + c * 2 ^ j := by
    rw [Nat.or_comm, Nat.mul_comm]
    have := Nat.two_pow_add_eq_or_of_lt ha c
    omega
  rw [e1, or_nat stays_u8 (by omega) (by omega), e2]
  push_cast
  rfl
theorem outs_next (P : List Int) (q N i : Nat) (_hi : i < 8 * N) : (outs P q N i).set (i / 8) ((outs P q N i).getD (i / 8) 0 + bitP P (8 * q + i) * 2 ^ (i % 8)) = outs P q N (i + 1) := by
  apply List.ext_getElem?
  intro j
  by_cases h : j < N
  · rw [outs_get _ _ _ _ h]
    by_cases e : j = i / 8
    · subst e
      rw [List.getElem?_set_self (by rw [outs_length]; exact h), List.getD_eq_getElem?_getD, outs_get _ _ _ _ h, Option.getD_some]
      have e1 : min 8 (i - 8 * (i / 8)) = i % 8 := by omega
      have e2 : min 8 (i + 1 - 8 * (i / 8)) = i % 8 + 1 := by omega
      rw [e1, e2, show pkN P (8 * (q + i / 8)) (i % 8 + 1) = pkN P (8 * (q + i / 8)) (i % 8) + bitP P (8 * (q + i / 8) + i % 8) * 2 ^ (i % 8) from rfl, show 8 * (q + i / 8) + i % 8 = 8 * q + i by omega]
    · rw [List.getElem?_set_ne (Ne.symm e), outs_get _ _ _ _ h]
      congr 2
      omega
  · rw [List.getElem?_eq_none (by rw [List.length_set, outs_length]; omega), List.getElem?_eq_none (by rw [outs_length]; omega)]
theorem pk8 {P : List Int} {r : Nat} (hb : 0 ≤ P.getD r 0 ∧ P.getD r 0 < 256) : pkN P (8 * r) 8 = P.getD r 0 := by
  have e : ∀ i, i < 8 → bitP P (8 * r + i) = P.getD r 0 / 2 ^ i % 2 := fun i hi => by
    unfold bitP
    rw [show (8 * r + i) / 8 = r by omega, show (8 * r + i) % 8 = i by omega]
  simp only [pkN]
  rw [e 0 (by decide), e 1 (by decide), e 2 (by decide), e 3 (by decide), e 4 (by decide), e 5 (by decide), e 6 (by decide), e 7 (by decide)]
  generalize P.getD r 0 = c at hb
  simp only [Int.pow_succ, Int.pow_zero]
  omega
theorem outs_all {P : List Int} {q N : Nat} (hb : ∀ c ∈ P, 0 ≤ c ∧ c < 256) (hl : q + N ≤ P.length) : outs P q N (8 * N) = (P.drop q).take N := by
  apply List.ext_getElem?
  intro j
  by_cases h : j < N
  · rw [outs_get _ _ _ _ h, List.getElem?_take, if_pos h, List.getElem?_drop, show min 8 (8 * N - 8 * j) = 8 by omega, pk8, List.getD_eq_getElem?_getD, List.getElem?_eq_getElem (by omega), Option.getD_some]
    rw [List.getD_eq_getElem?_getD, List.getElem?_eq_getElem (by omega), Option.getD_some]
    exact hb _ (List.getElem_mem _)
  · rw [List.getElem?_eq_none (by rw [outs_length]; omega), List.getElem?_eq_none (by simp; omega)]
def BytPost (P : List Int) (q N : Nat) (w : World) (x : Ending) (w' : World) : Prop := ∃ v, x = .returned v ∧ Own w.heap.size w' v (outs P q N (8 * N)) ∧ Below w.heap.size w w'
def BytRel (P : List Int) (q N : Nat) (w : World) (v v4 : Value) (u : World) : Prop := ∃ i : Nat, v4 = .int .i64 (i : Int) ∧ i ≤ 8 * N ∧ Own w.heap.size u v (outs P q N i) ∧ Below w.heap.size w u
set_option maxHeartbeats 4000000 in
theorem bytes_any {t : ByteArray} {P : List Int} {q N : Nat} (hs : t.size = 8 * N) (hN : N ≤ 100000) (hb : ∀ i, i < 8 * N → bt t (i : Int) = 48 + bitP P (8 * q + i)) (w : World) :
    Calls Try.prog 16 #[.string t] w (BytPost P q N w) := by
  have HS := Lib.hid hs
  have HB := Lib.hid hb
  have e1 : wrap64 ((t.size : Int) + 7) = ((8 * N + 7 : Nat) : Int) := by rw [hs, wrap64_in (by omega) (by omega)]; omega
  have e2 : wrap64 (Int.tdiv ((8 * N + 7 : Nat) : Int) 8) = (N : Int) := by rw [Int.tdiv_eq_ediv_of_nonneg (by omega), wrap64_in (by omega) (by omega)]; omega
  clear hs hb
  go_enter Try.func16, Try.ntmps16
  go_wp2_with (first
    | (with_reducible refine gate 9 rfl ?_
       refine own_make (base := w.heap.size) (w0 := w) rfl rfl (.tmp 8) rfl N (congrArg (Value.int .i64) (show (8 * (N : Int) + 7) / 8 = N by omega)) (Below.refl _ _) (Nat.le_refl _) (by omega) ?_
       intro v1 w1 hV1 hB1))
  clear e1 e2
  go_loopw [4] (fun v4 u => BytRel P q N w v1 v4 u) (fun i _ => 8 * N - (intOf i).toNat)
  case atStart => exact ⟨0, rfl, Nat.zero_le _, by rw [outs_zero]; exact hV1, hB1⟩
  case round =>
    obtain ⟨i, rfl, hi, hO, hBl⟩ := hrel
    clear hV1 hB1
    by_cases c : i < 8 * N
    · have c1 : decide ((i : Int) < (t.size : Int)) = true := decide_eq_true (by have := HS.out; omega)
      obtain ⟨g, cap, ev, hg⟩ := hO.form (by rw [outs_length]; omega)
      rw [outs_length] at ev
      subst ev
      have hc1 := hO.cell (j := i / 8) (by rw [outs_length]; omega)
      have hf1 := hO.frozen (j := i / 8) (by omega)
      have hbt := HB.out i c
      have hX := Lib.hid (outs_next P q N i c)
      have hN := Lib.hid hN
      have hO' := Lib.hid hO
      have i1 : (0 : Int) ≤ (i : Int) / 8 ∧ (i : Int) / 8 < (N : Int) := by omega
      have i2 : (i : Int) < (t.size : Int) := by have := HS.out; omega
      clear hO
      have hti : ∀ h : i < t.size, ((t[i]'h).toNat : Int) = 48 + bitP P (8 * q + i) := fun h => (bt_at t (i : Int) h).trans hbt
      have hti' := Lib.hid hti
      have hb8 := pkN_b P (8 * (q + i / 8)) (i % 8)
      have hx : (outs P q N i).getD (i / 8) 0 = pkN P (8 * (q + i / 8)) (i % 8) := by
        rw [List.getD_eq_getElem?_getD, outs_get _ _ _ _ (by omega), Option.getD_some, show min 8 (i - 8 * (i / 8)) = i % 8 by omega]
      rw [hx] at hc1
      have hx' := Lib.hid hx
      have hb8' := Lib.hid hb8
      clear hx hbt hti hb8
      generalize pkN P (8 * (q + i / 8)) (i % 8) = x at *
      go_upto_region 5 with (fail)
      go_region
      go_wp2_with fail
      go_roundw
      case rel =>
        have hb := bitP_b P (8 * q + i)
        refine ⟨i + 1, by simp, by omega, ?_, below_drew1 (hBl.setCell hg _)⟩
        have h9 := Own.putn hO'.out (i / 8) (x + bitP P (8 * q + i) * 2 ^ (i % 8))
        rw [← hx'.out, hX.out, hx'.out] at h9
        rw [hti'.out, show (48 + bitP P (8 * q + i) - 48) % 256 = bitP P (8 * q + i) by omega, or_bit8 (by omega) hb8'.out.1 hb8'.out.2 (by omega)]
        exact Kd.R_drew h9
      case measure => simp [intOf]; omega
    · have c1 : decide (i < t.size) = false := decide_eq_false (by have := HS.out; omega)
      have hO' : Hid (Own w.heap.size wr v1 (outs P q N (8 * N))) := Lib.hid (by rw [show 8 * N = i by omega]; exact hO)
      clear hO
      go_wp2_with fail
      go_ret
      exact ⟨v1, rfl, hO'.out, hBl⟩
end Go.Proofs.Ytplabbnmongbaaa.Walks
