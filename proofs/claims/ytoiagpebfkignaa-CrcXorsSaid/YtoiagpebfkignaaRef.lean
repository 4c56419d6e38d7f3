/- What the document's Crc comes to. -/
import Derived.Test.YtoiagpebfkignaaUpd
namespace Go.Proofs.Ytoiagpebfkignaa.Walks
open Go Go.RowKit Go.Proofs.Ytoiagpebfkignaa.Aid Go.Proofs.Ytoiagpebfkignaa.Plain

attribute [local go_sem high] unary_not32
attribute [-go_sem] unary_xor
theorem nu_low (a : BitVec 32) : Go.bits .and .u32 (nu a) 1 = if a.getLsbD 0 then 1 else 0 := by
  have h := nu_odd a
  have h2 : Go.bits .and .u32 (nu a) 1 = nu a % 2 := and1_u32 _
  rw [h2] at h ⊢
  cases e : a.getLsbD 0 with
  | true => rw [e] at h; rw [if_pos rfl]; exact h.2 rfl
  | false =>
    rw [e] at h
    have : nu a % 2 ≠ 1 := fun x => by have := h.1 x; cases this
    rw [if_neg (by decide)]
    omega
set_option maxHeartbeats 4000000 in
set_option maxRecDepth 100000 in
theorem ref_any {w : World} {A : Option Addr} {l : List Int} {cap : Nat} (r : BitVec 32) (hR : RdK .u8 w A l) (hb : Bytes l) (hs : l.length ≤ 1000000) : Calls Try.prog 11 #[.int .u32 (nu r), .slice A l.length cap] w (UpdPost r l w) := by
  have HR := Lib.hid hR
  have HB := Lib.hid hb
  clear hR hb
  go_enter Try.func11, Try.ntmps11
  go_wp2_with fail
  go_loopw [5, 6] (fun v5 v6 u => RunRel r l w v5 v6 u) (fun _ i _ => l.length - (intOf i).toNat)
  case atStart => exact ⟨0, rfl, Nat.zero_le _, rfl, Only.refl _ _⟩
  case round =>
    obtain ⟨i, rfl, hi, rfl, hO⟩ := hrel
    by_cases c : i < l.length
    · have c1 : decide ((i : Int) < (l.length : Int)) = true := by simpa using (show (i : Int) < l.length by omega)
      obtain ⟨ad, rfl, hc⟩ := (RdK.only HR.out hO) (by omega)
      have h1 := hc i c
      have HX := Lib.hid (run_take c (~~~r))
      have HY := Lib.hid (HB.out.at c)
      clear hc
      generalize l.getD i 0 = x at *
      generalize hq : run (~~~r) (l.take i) = q at *
      clear hq
      have y0 := HY.out
      have w1 : IntKind.u32.wrap x = nu (b32 x) := by rw [nu_b32 y0.1 y0.2, u32_in y0.1 (by omega)]
      have w2 : x % 4294967296 = nu (b32 x) := by rw [nu_b32 y0.1 y0.2]; omega
      have x1 := nu_xor q (b32 x)
      go_wp2_with fail
      go_loopw [5, 7] (fun v5 v7 u => ∃ k : Nat, v7 = .int .i64 (k : Int) ∧ k ≤ 8 ∧ v5 = .int .u32 (nu (stpN k (q ^^^ b32 x))) ∧ u = wr) (fun _ k _ => 8 - (intOf k).toNat)
      case atStart => exact ⟨0, rfl, by decide, rfl, rfl⟩
      case round =>
        obtain ⟨k, rfl, hk, rfl, rfl⟩ := hrel
        by_cases d : k < 8
        · have d1 : decide ((k : Int) < 8) = true := by simpa using (show (k : Int) < 8 by omega)
          have HS := Lib.hid (show stpN (k + 1) (q ^^^ b32 x) = stp (stpN k (q ^^^ b32 x)) from stpN_add k 1 _)
          generalize stpN k (q ^^^ b32 x) = z at *
          cases hz : z.getLsbD 0 with
          | true =>
            have m1 : Go.bits .and .u32 (nu z) 1 = 1 := (nu_odd z).2 hz
            have m2 := nu_step_on hz
            go_wp2_with fail
            go_roundw
            case rel => exact ⟨k + 1, by simp, by omega, by rw [HS.out], by trivial⟩
            case measure => simp [intOf]; omega
          | false =>
            have m1 : Go.bits .and .u32 (nu z) 1 = 0 := by rw [nu_low, hz]; rfl
            have m2 := nu_step_off hz
            go_wp2_with fail
            go_roundw
            case rel => exact ⟨k + 1, by simp, by omega, by rw [HS.out, ← m2], by trivial⟩
            case measure => simp [intOf]; omega
        · have d1 : decide ((k : Int) < 8) = false := by simpa using (show ¬ (k : Int) < 8 by omega)
          have : k = 8 := by omega
          subst this
          go_wp2_with fail
          go_roundw
          case rel => exact ⟨i + 1, by simp, by omega, by rw [HX.out]; rfl, hO⟩
          case measure => simp [intOf]; omega
    · have c1 : decide ((i : Int) < (l.length : Int)) = false := by simpa using (show ¬ (i : Int) < l.length by omega)
      have e : l.take i = l := List.take_of_length_le (by omega)
      rw [e]
      clear e
      go_wp2_with fail
      go_ret
      exact ⟨rfl, hO⟩
end Go.Proofs.Ytoiagpebfkignaa.Walks
