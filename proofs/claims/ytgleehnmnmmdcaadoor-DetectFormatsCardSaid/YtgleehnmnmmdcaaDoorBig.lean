/- Contracts of num.Big of two bytes, and of zlib. -/
import Derived.Test.YtgleehnmnmmdcaaDoorNum2
namespace Go.Proofs.YtgleehnmnmmdcaaDoor.Walks
open Go Go.RowKit Go.Proofs.YtgleehnmnmmdcaaDoor.Aid Go.Proofs.YtgleehnmnmmdcaaDoor.Own

/-- num.Big (b, 0, 2): value and errno. -/
def bigV (l : List Int) : Int := if 2 ≤ l.length then two l 2 else 0
def bigE (l : List Int) : Int := if 2 ≤ l.length then 0 else 5
theorem read_any {w : World} {A : Option Addr} {l : List Int} {c n : Nat} (hn : l.length = n) (hA : RdK .u8 w A l) (bl : Bytes l) : Calls Tryd.prog 30 #[.slice A n c, .int .i64 0, .int .i64 2, .func (.func 31) #[] #[]] w fun e w' => e = .returned (.tuple #[.int .u64 (bigV l), .int .i64 (bigE l)]) ∧ Only (fun _ => False) w w' := by
  by_cases h : 2 ≤ l.length
  · unfold bigV bigE
    rw [if_pos h, if_pos h]
    exact read_two hn (by omega) hA bl
  · unfold bigV bigE
    rw [if_neg h, if_neg h]
    exact read_short (by omega)
theorem big_any {w : World} {A : Option Addr} {l : List Int} {c n : Nat} (hn : l.length = n) (hA : RdK .u8 w A l) (bl : Bytes l) : Calls Tryd.prog 21 #[.slice A n c, .int .i64 0, .int .i64 2] w fun e w' => e = .returned (.tuple #[.int .u64 (bigV l), .int .i64 (bigE l)]) ∧ Only (fun _ => False) w w' := by
  have HA := Lib.hid hA
  have BL := Lib.hid bl
  have HN := Lib.hid hn
  clear hA bl hn
  go_enter Tryd.func21, Tryd.ntmps21
  go_wp2_with fail
  go_at_call 30
  refine (read_any (c := c) HN.out HA.out BL.out).mono ?_
  rintro x w' ⟨rfl, ho⟩
  have HO := Lib.hid ho
  clear ho
  obtain ⟨v, hv⟩ : ∃ v, bigV l = v := ⟨_, rfl⟩
  obtain ⟨e, he⟩ : ∃ e, bigE l = e := ⟨_, rfl⟩
  rw [hv, he]
  have HV := Lib.hid hv
  have HE := Lib.hid he
  clear hv he
  go_wp2_with fail
  go_ret2
  exact ⟨by rw [HV.out, HE.out]; rfl, HO.out⟩
def zlibOf (l : List Int) : Bool := decide (2 ≤ l.length) && decide (two l 2 / 256 % 16 = 8) && decide (two l 2 / 4096 ≤ 7) && decide (two l 2 % 31 = 0) && decide (two l 2 / 32 % 2 = 0)
theorem and32 {k : IntKind} {j : Nat} (s : Stays k j) (hj : 6 ≤ j) {x : Int} (h0 : 0 ≤ x) (h1 : x < 2 ^ j) : Go.bits .and k x 32 = x / 32 % 2 * 32 := by
  obtain ⟨n, rfl⟩ := Int.eq_ofNat_of_zero_le h0
  have hn : n < 2 ^ j := by exact_mod_cast h1
  have h32 : (32 : Nat) < 2 ^ j := Nat.lt_of_lt_of_le (by decide : 32 < 2 ^ 6) (Nat.pow_le_pow_right (by decide) hj)
  have := and_nat s hn h32
  have e1 : (n &&& 32) / 32 = n / 32 % 2 := by
    have := Nat.shiftRight_and_distrib (a := n) (b := 32) (i := 5)
    rw [Nat.shiftRight_eq_div_pow, Nat.shiftRight_eq_div_pow, Nat.shiftRight_eq_div_pow] at this
    rw [← Nat.and_one_is_mod]
    exact this
  have e2 : (n &&& 32) % 32 = 0 := by
    have := Nat.and_mod_two_pow (a := n) (b := 32) (n := 5)
    rw [show (32 : Nat) % 2 ^ 5 = 0 from rfl, Nat.and_zero] at this
    exact this
  rw [show ((32 : Int)) = ((32 : Nat) : Int) from rfl, this]
  generalize n &&& 32 = m at *
  omega
theorem zlib_eq {l : List Int} (bl : Bytes l) : zlibOf l = (decide (bigE l = 0) && decide (Go.bits .and .u64 (bigV l / 256) 15 = 8) && decide (bigV l / 4096 ≤ 7) && decide (Int.tmod (bigV l) 31 = 0) && (Go.bits .and .u64 (bigV l) 32 == 0)) := by
  unfold zlibOf bigV bigE
  by_cases h : 2 ≤ l.length
  · rw [if_pos h, if_pos h]
    have hb : ∀ j, j < l.length → 0 ≤ l.getD j 0 ∧ l.getD j 0 < 256 := fun j hj => by
      rw [List.getD_eq_getElem?_getD, List.getElem?_eq_getElem hj, Option.getD_some]; exact bl _ (List.getElem_mem hj)
    have b0 := hb 0 (by omega)
    have b1 := hb 1 (by omega)
    have hv : two l 2 = l.getD 0 0 * 256 + l.getD 1 0 := rfl
    generalize l.getD 0 0 = x at *
    generalize l.getD 1 0 = y at *
    rw [hv, show Go.bits .and .u64 ((x * 256 + y) / 256) 15 = (x * 256 + y) / 256 % 16 from mask_any stays_u64 (i := 4) (by decide) _, and32 stays_u64 (by decide) (by omega) (by omega), tmod_pos (by omega)]
    have e : ((x * 256 + y) / 32 % 2 * 32 == 0) = decide ((x * 256 + y) / 32 % 2 = 0) := by
      by_cases h : (x * 256 + y) / 32 % 2 = 0
      · rw [decide_eq_true h, h]; rfl
      · rw [decide_eq_false h]; exact beq_eq_false_iff_ne.mpr (by omega)
    rw [e, decide_eq_true h]
    rfl
  · rw [if_neg h, if_neg h, decide_eq_false h]
    rfl
set_option maxHeartbeats 4000000 in
theorem zlib_any {w : World} {A : Option Addr} {l : List Int} {c : Nat} (hA : RdK .u8 w A l) (bl : Bytes l) : Calls Tryd.prog 16 #[.agg #[.slice A l.length c]] w (ProbePost (zlibOf l) w) := by
  have HA := Lib.hid hA
  have BL := Lib.hid bl
  clear hA bl
  have HO := Lib.hid ((Only.refl (fun _ => False) w).alloc (.cells #[.slice A l.length c] 39))
  go_enter Tryd.func16, Tryd.ntmps16
  go_wp2_with fail
  go_at_call 21
  refine (big_any (c := c) rfl (rd_only HA.out HO.out) BL.out).mono ?_
  rintro x w' ⟨rfl, ho⟩
  have HP := Lib.hid (HO.out.trans' ho)
  clear ho HO
  obtain ⟨v, hv⟩ : ∃ v, bigV l = v := ⟨_, rfl⟩
  obtain ⟨e, he⟩ : ∃ e, bigE l = e := ⟨_, rfl⟩
  rw [hv, he]
  have HV := Lib.hid hv
  have HE := Lib.hid he
  clear hv he
  have HZ := Lib.hid (zlib_eq BL.out)
  rw [HV.out, HE.out] at HZ
  by_cases h0 : e = 0
  · have e1 : (e == 0) = true := beq_iff_eq.mpr h0
    go_wp2_with fail
    all_goals go_ret
    all_goals exact ⟨by rw [HZ.out]; simp [*]; try omega, HP.out⟩
  · have e1 : (e == 0) = false := beq_eq_false_iff_ne.mpr h0
    go_wp2_with fail
    go_ret
    exact ⟨by rw [HZ.out]; simp [*], HP.out⟩
end Go.Proofs.YtgleehnmnmmdcaaDoor.Walks
