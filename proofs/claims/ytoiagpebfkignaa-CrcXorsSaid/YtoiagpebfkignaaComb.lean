/- What Combine comes to. -/
import Derived.Test.YtoiagpebfkignaaMat
namespace Go.Proofs.Ytoiagpebfkignaa.Walks
open Go Go.RowKit Go.Proofs.Ytoiagpebfkignaa.Aid Go.Proofs.Ytoiagpebfkignaa.Plain Go.Proofs.YtoiagpebfkignaaW.PrintWords

attribute [local go_sem] zero39
theorem stepm_any (i : Nat) (_hi : i < 32) (w : World) : Calls Try.prog 15 #[.int .u32 (2 ^ i % 4294967296), .int .u8 0] w (fun e w' => e = .returned (.int .u32 (nu (mat 8 i))) ∧ ∃ n, w' = w.drewN n) := by
  have h := step_any ((1#32) <<< i) 0 (by decide) (by decide) w
  have e : nu ((1#32) <<< i) = 2 ^ i % 4294967296 := by
    unfold nu
    rw [BitVec.toNat_shiftLeft, Nat.shiftLeft_eq, show (1#32).toNat = 1 by decide, Nat.one_mul]
    rw [show (2 : Nat) ^ 32 = 4294967296 by decide, Int.natCast_emod, Int.natCast_pow]
    rfl
  rw [e] at h
  refine h.mono ?_
  rintro x w' ⟨rfl, hx⟩
  exact ⟨by rw [mat_step], hx⟩
def mats (i j : Nat) : BitVec 32 := if j < i then mat 8 j else 0#32
theorem and_one (n : Nat) : Go.bits .and .i64 (n : Int) 1 = ((n % 2 : Nat) : Int) := by
  rw [show Go.bits .and .i64 (n : Int) 1 = (n : Int) % 2 from mask_any stays_i64 (i := 1) (by decide) _]
  omega
def CombA (w : World) (v12 : Value) (u : World) : Prop := ∃ i : Nat, v12 = .int .i64 (i : Int) ∧ i ≤ 32 ∧ ArrAt u w.heap.size 39 32 (mats i) ∧ Only (fun _ => False) w u
def CombB (w : World) (a : BitVec 32) (n : Nat) (v0 v2 : Value) (u : World) : Prop :=
  ∃ (k nn : Nat) (aa : BitVec 32), v2 = .int .i64 (nn : Int) ∧ nn ≤ n ∧ v0 = .int .u32 (nu aa) ∧ stpN (k * nn) aa = stpN (8 * n) a ∧ ArrAt u w.heap.size 39 32 (mat k) ∧ Only (fun _ => False) w u
set_option maxHeartbeats 4000000 in
theorem combine_any (a b : BitVec 32) (n : Nat) (hn : n ≤ 1000000) (w : World) : Calls Try.prog 14 #[.int .u32 (nu a), .int .u32 (nu b), .int .i64 (n : Int)] w (NumPost (stpN (8 * n) a ^^^ b) w) := by
  have HN := Lib.hid hn
  have c0 : decide ((n : Int) < 0) = false := decide_eq_false (by omega)
  clear hn
  go_enter Try.func14, Try.ntmps14
  go_wp2_with fail
  go_loopw [12] (fun v12 u => CombA w v12 u) (fun i _ => 32 - (intOf i).toNat)
  case atStart => exact ⟨0, rfl, by decide, (ArrAt.new w 39 (Are.zero 32)).congr (fun j _ => rfl), (Only.refl _ w).alloc _⟩
  case round =>
    obtain ⟨i, rfl, hi, hA, hO⟩ := hrel
    by_cases c : i < 32
    · have c1 : decide ((i : Int) < 32) = true := decide_eq_true (by omega)
      have hc := hA.cell c
      have hf := hA.free i
      go_wp2_with fail
      go_at_call 15
      refine (stepm_any i c _).mono ?_
      rintro e w' ⟨rfl, m, rfl⟩
      go_wp2_with fail
      go_roundw
      case rel =>
        refine ⟨i + 1, by simp, by omega, ?_, ?_⟩
        · refine ((hA.drewN m).set i (mat 8 i)).congr (fun j _ => ?_)
          unfold mats
          by_cases e : j = i
          · rw [if_pos e, if_pos (by omega), e]
          · rw [if_neg e]
            by_cases e2 : j < i
            · rw [if_pos e2, if_pos (by omega)]
            · rw [if_neg e2, if_neg (by omega)]
        · exact (hO.drewN m).setCell (Or.inr (Nat.le_refl _)) _
      case measure => simp [intOf]; omega
    · have c1 : decide ((i : Int) < 32) = false := decide_eq_false (by omega)
      obtain rfl : i = 32 := by omega
      go_wp2_with fail
      rw [show ((32 : Nat) : Int) = 32 from rfl]
      go_loopw [0, 2] (fun v0 v2 u => CombB w a n v0 v2 u) (fun _ i _ => (intOf i).toNat)
      case atStart => exact ⟨8, n, a, rfl, Nat.le_refl _, rfl, rfl, hA.congr (fun j hj => by unfold mats; rw [if_pos hj]), hO⟩
      case round =>
        obtain ⟨k, nn, aa, rfl, hnn, rfl, hS, hA2, hO2⟩ := hrel
        clear hA hO
        by_cases c2 : 0 < nn
        · have c3 : decide ((nn : Int) > 0) = true := decide_eq_true (by omega)
          have hb := and_one nn
          have hS' := Lib.hid hS
          obtain ⟨D, hD, hE⟩ := hA2
          clear hS c1 c
          by_cases ho : nn % 2 = 1
          · have hb' : (Go.bits .and .i64 (nn : Int) 1 == 1) = true := by rw [hb]; exact beq_iff_eq.mpr (by omega)
            clear hb
            go_wp2_with (first
              | ((with_reducible refine gate 29 rfl ?_); refine wpList_load_row rfl 39 (.tmp 7) rfl _ rfl 39 D (0, 0) _ hD row39 rfl (by rw [hE.1]; exact size39) ?_))
            go_at_call 17
            refine (times_any hE aa _).mono ?_
            rintro e w1 ⟨rfl, hO3⟩
            go_wp2_with (first
              | ((with_reducible refine gate 32 rfl ?_); refine wpList_load_row rfl 39 (.tmp 7) rfl _ rfl 39 D (0, 0) _ (hO3.keeps hD id) row39 rfl (by rw [hE.1]; exact size39) ?_))
            go_at_call 18
            refine (square_any hE w1).mono ?_
            rintro e w2 ⟨⟨D2, rfl, hE2⟩, hO4⟩
            replace hO4 := hO3.trans' hO4
            go_wp2_with (refine wpList_store_row rfl 39 (.tmp 7) (.tmp 33) rfl _ D2 rfl rfl 39 D (hO4.keeps hD id) (by rw [hE2.1]; exact size39) (by rw [hE2.1, hE.1]) hE2.one ?_)
            go_roundw
            case rel =>
              refine ⟨2 * k, nn / 2, times (mat k) aa 32, by simp, by omega, rfl, ?_, ⟨D2, setRow_heap _ _ _ _ _ _ (hO4.keeps hD id), hE2.congr (fun j _ => by rw [times_all, mat_square])⟩, only_setRow (hO2.trans' hO4) (Or.inr (Nat.le_refl _)) D2⟩
              rw [times_all, ← stpN_add, ← hS'.out]
              congr 1
              rw [Nat.mul_comm 2 k, Nat.mul_assoc]
              have e : nn = 2 * (nn / 2) + 1 := by omega
              generalize nn / 2 = h at e ⊢
              rw [e, Nat.mul_add, Nat.mul_one, Nat.add_comm]
            case measure => simp [intOf]; omega
          · have hb' : (Go.bits .and .i64 (nn : Int) 1 == 1) = false := by rw [hb]; exact beq_eq_false_iff_ne.mpr (by omega)
            clear hb
            go_wp2_with (first
              | ((with_reducible refine gate 32 rfl ?_); refine wpList_load_row rfl 39 (.tmp 7) rfl _ rfl 39 D (0, 0) _ hD row39 rfl (by rw [hE.1]; exact size39) ?_))
            go_at_call 18
            refine (square_any hE wr).mono ?_
            rintro e w2 ⟨⟨D2, rfl, hE2⟩, hO4⟩
            go_wp2_with (refine wpList_store_row rfl 39 (.tmp 7) (.tmp 33) rfl _ D2 rfl rfl 39 D (hO4.keeps hD id) (by rw [hE2.1]; exact size39) (by rw [hE2.1, hE.1]) hE2.one ?_)
            go_roundw
            case rel =>
              refine ⟨2 * k, nn / 2, aa, by simp, by omega, rfl, ?_, ⟨D2, setRow_heap _ _ _ _ _ _ (hO4.keeps hD id), hE2.congr (fun j _ => by rw [times_all, mat_square])⟩, only_setRow (hO2.trans' hO4) (Or.inr (Nat.le_refl _)) D2⟩
              rw [← hS'.out]
              congr 1
              rw [Nat.mul_comm 2 k, Nat.mul_assoc]
              congr 1
              omega
            case measure => simp [intOf]; omega
        · have c3 : decide ((nn : Int) > 0) = false := decide_eq_false (by omega)
          have hS0 := Lib.hid hS
          clear hS c1 c
          go_wp2_with fail
          go_ret
          refine ⟨?_, hO2⟩
          have e := hS0.out
          rw [show nn = 0 by omega, Nat.mul_zero] at e
          replace e : aa = stpN (8 * n) a := e
          rw [← e, ← nu_xor]
          rfl
theorem combine_neg (a b : BitVec 32) (n : Int) (hn : n < 0) (w : World) : Calls Try.prog 14 #[.int .u32 (nu a), .int .u32 (nu b), .int .i64 n] w (NumPost a w) := by
  have c0 : decide (n < 0) = true := decide_eq_true hn
  go_enter Try.func14, Try.ntmps14
  go_wp2_with fail
  go_ret
  exact ⟨rfl, Only.refl _ _⟩
end Go.Proofs.Ytoiagpebfkignaa.Walks
