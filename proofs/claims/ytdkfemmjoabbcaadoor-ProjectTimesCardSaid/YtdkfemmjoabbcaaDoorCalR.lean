/- The reference's calendar: leap, Month, floor, ahead, Days2, Days; how it agrees with clock's. The reference's calendar: Month, Days, Date. The reference's Date. -/
import Derived.Test.YtdkfemmjoabbcaaDoorCalC
namespace Go.Proofs.YtdkfemmjoabbcaaDoor.Walks
open Go Go.RowKit Go.Proofs.YtdkfemmjoabbcaaDoor.Aid Go.Proofs.YtdkfemmjoabbcaaDoor.Pth Go.Proofs.YtdkfemmjoabbcaaDoor.Own Go.Proofs.YtdkfemmjoabbcaaDoorW.PrintWords

def leapL (y : Int) : Bool := decide (y % 4 = 0) && (!decide (y % 100 = 0) || decide (y % 400 = 0))
def mtab : List Int := [31, 28, 31, 30, 31, 30, 31, 31, 30, 31, 30, 31]
def monthL (y : Int) (k : Nat) : Int := mtab.getD k 0 + if k = 1 ∧ leapL y = true then 1 else 0
def aheadL (y : Int) : Int := y * 365 + (y - 1) / 4 - (y - 1) / 100 + (y - 1) / 400 + 1
def D2 (y : Int) : Int := aheadL y - 719528
def cumN (y : Int) : Nat → Int
  | 0 => 0
  | k + 1 => cumN y k + monthL y k
theorem D2_step (y : Int) : D2 y ≤ D2 (y + 1) := by unfold D2 aheadL; omega
theorem D2_mono (y : Int) : ∀ k : Nat, D2 y ≤ D2 (y + k)
  | 0 => by simp
  | k + 1 => Int.le_trans (D2_mono y k) (by have := D2_step (y + k); rw [show y + (k : Int) + 1 = y + ((k + 1 : Nat) : Int) by omega] at this; exact this)
theorem D2_le {y z : Int} (h : y ≤ z) : D2 y ≤ D2 z := by
  have := D2_mono y (z - y).toNat
  rwa [show y + ((z - y).toNat : Int) = z by omega] at this
theorem monthL_nn (y : Int) (k : Nat) : 0 ≤ monthL y k := by
  unfold monthL
  have : 0 ≤ mtab.getD k 0 := by
    rcases Nat.lt_or_ge k 12 with h | h
    · rcases (show k = 0 ∨ k = 1 ∨ k = 2 ∨ k = 3 ∨ k = 4 ∨ k = 5 ∨ k = 6 ∨ k = 7 ∨ k = 8 ∨ k = 9 ∨ k = 10 ∨ k = 11 by omega) with rfl | rfl | rfl | rfl | rfl | rfl | rfl | rfl | rfl | rfl | rfl | rfl <;> decide
    · rw [List.getD_eq_getElem?_getD, List.getElem?_eq_none (by show 12 ≤ k; exact h)]; decide
  split <;> omega
theorem cumN_le (y : Int) (k : Nat) : ∀ j : Nat, cumN y k ≤ cumN y (k + j)
  | 0 => Int.le_refl _
  | j + 1 => Int.le_trans (cumN_le y k j) (by show _ ≤ cumN y (k + j) + monthL y (k + j); have := monthL_nn y (k + j); omega)
def calOk (y k : Nat) : Bool := decide (monthL y k = longL y (k + 1)) && decide (D2 y + cumN y k = daysL y (k + 1) 1) && decide (daysL y (k + 1) 1 + longL y (k + 1) ≤ D2 (y + 1)) && decide (0 ≤ cumN y k) && decide (D2 (y + 1) ≤ 366 * (y - 1969))
theorem cal_chk : (List.range 128).all (fun i => (List.range 12).all (fun k => calOk (1980 + i) k)) = true := by kernel_rfl
structure CalOk (y : Int) (k : Nat) : Prop where
  mon : monthL y k = longL y (k + 1)
  day : D2 y + cumN y k = daysL y (k + 1) 1
  top : daysL y (k + 1) 1 + longL y (k + 1) ≤ D2 (y + 1)
  cum : 0 ≤ cumN y k
  big : D2 (y + 1) ≤ 366 * (y - 1969)
theorem cal_ok {y : Int} (hy : 1980 ≤ y ∧ y ≤ 2107) {k : Nat} (hk : k < 12) : CalOk y k := by
  have h := cal_chk
  rw [List.all_eq_true] at h
  have h1 := h (y - 1980).toNat (List.mem_range.2 (by omega))
  rw [List.all_eq_true] at h1
  have h2 := h1 k (List.mem_range.2 hk)
  obtain ⟨z, hz⟩ : ∃ z : Nat, 1980 + (y - 1980).toNat = z := ⟨_, rfl⟩
  rw [hz] at h2
  have e : (z : Int) = y := by omega
  unfold calOk at h2
  rw [e] at h2
  simp only [Bool.and_eq_true, decide_eq_true_eq] at h2
  obtain ⟨⟨⟨⟨a, b⟩, c⟩, d⟩, f⟩ := h2
  exact ⟨a, b, c, d, f⟩
theorem daysL_add (y m d : Int) : daysL y m d = daysL y m 1 + d - 1 := by unfold daysL; omega
section
variable {w : World}
set_option maxRecDepth 100000 in
set_option maxHeartbeats 4000000 in
theorem rleap_any (y : Int) (w : World) (h0 : 0 ≤ y) (h1 : y ≤ 100000) : Calls Tryd.prog 77 #[.int .i64 y] w (fun x w' => x = .returned (.bool (leapL y)) ∧ w' = w) := by
  have HL := Lib.hid (show leapL y = (decide (y % 4 = 0) && (!decide (y % 100 = 0) || decide (y % 400 = 0))) from rfl)
  have g1 : (y % 4 == 0) = decide (y % 4 = 0) := by by_cases h : y % 4 = 0 <;> simp [h]
  have g2 : (y % 100 != 0) = !decide (y % 100 = 0) := by by_cases h : y % 100 = 0 <;> simp [h]
  have g3 : (y % 400 == 0) = decide (y % 400 = 0) := by by_cases h : y % 400 = 0 <;> simp [h]
  obtain ⟨b1, h1'⟩ : ∃ b : Bool, decide (y % 4 = 0) = b := ⟨_, rfl⟩
  obtain ⟨b2, h2⟩ : ∃ b : Bool, decide (y % 100 = 0) = b := ⟨_, rfl⟩
  obtain ⟨b3, h3⟩ : ∃ b : Bool, decide (y % 400 = 0) = b := ⟨_, rfl⟩
  rw [h1'] at HL g1; rw [h2] at HL g2; rw [h3] at HL g3
  clear h1' h2 h3
  rcases way b1 (way b2 (ways b3)) with rfl | ⟨rfl, rfl | ⟨rfl, rfl | rfl⟩⟩
  all_goals
    go_enter Tryd.func77, Tryd.ntmps77
    go_wp2_with fail
    go_ret
    exact ⟨by rw [HL.out]; rfl, rfl⟩
set_option maxRecDepth 100000 in
set_option maxHeartbeats 4000000 in
theorem rfloor_any (a b : Int) (w : World) (hb : b = 4 ∨ b = 100 ∨ b = 400 ∨ b = 86400 ∨ b = 366) (h0 : 0 ≤ a) (h1 : a ≤ 10000000000) : Calls Tryd.prog 67 #[.int .i64 a, .int .i64 b] w (fun x w' => x = .returned (.int .i64 (a / b)) ∧ w' = w) := by
  rcases hb with rfl | rfl | rfl | rfl | rfl
  all_goals
    go_enter Tryd.func67, Tryd.ntmps67
    go_wp2_with fail
    go_ret
    exact ⟨rfl, rfl⟩
set_option maxRecDepth 100000 in
set_option maxHeartbeats 4000000 in
theorem rahead_any (y : Int) (w : World) (h0 : 1 ≤ y) (h1 : y ≤ 100000) : Calls Tryd.prog 78 #[.int .i64 y] w (fun x w' => x = .returned (.int .i64 (aheadL y)) ∧ w' = w) := by
  have HA := Lib.hid (show aheadL y = y * 365 + (y - 1) / 4 - (y - 1) / 100 + (y - 1) / 400 + 1 from rfl)
  have H1 := Lib.hid (fun u => rfloor_any (y - 1) 4 u (by omega) (by omega) (by omega))
  have H2 := Lib.hid (fun u => rfloor_any (y - 1) 100 u (by omega) (by omega) (by omega))
  have H3 := Lib.hid (fun u => rfloor_any (y - 1) 400 u (by omega) (by omega) (by omega))
  have a0 : 0 ≤ (y - 1) / 4 := by omega
  have a1 : (y - 1) / 4 ≤ 100000 := by omega
  have b0 : 0 ≤ (y - 1) / 100 := by omega
  have b1 : (y - 1) / 100 ≤ 100000 := by omega
  have c0 : 0 ≤ (y - 1) / 400 := by omega
  have c1 : (y - 1) / 400 ≤ 100000 := by omega
  obtain ⟨a, ha⟩ : ∃ a, (y - 1) / 4 = a := ⟨_, rfl⟩
  obtain ⟨b, hb⟩ : ∃ b, (y - 1) / 100 = b := ⟨_, rfl⟩
  obtain ⟨c, hc⟩ : ∃ c, (y - 1) / 400 = c := ⟨_, rfl⟩
  rw [ha] at a0 a1 HA H1
  rw [hb] at b0 b1 HA H2
  rw [hc] at c0 c1 HA H3
  clear ha hb hc
  go_enter Tryd.func78, Tryd.ntmps78
  go_wp2_with (first
    | (go_at_call 67; (with_reducible refine (H1.out _).mono ?_); rintro x w1 ⟨rfl, rfl⟩)
    | (go_at_call 67; (with_reducible refine (H2.out _).mono ?_); rintro x w1 ⟨rfl, rfl⟩)
    | (go_at_call 67; (with_reducible refine (H3.out _).mono ?_); rintro x w1 ⟨rfl, rfl⟩))
  go_ret
  exact ⟨by rw [HA.out]; rfl, rfl⟩
theorem ahead70 : aheadL 1970 = 719528 := by decide
theorem aheadL_b (y : Int) (h0 : 1 ≤ y) (h1 : y ≤ 100000) : 0 ≤ aheadL y ∧ aheadL y ≤ 100000000 := by unfold aheadL; omega
set_option maxRecDepth 100000 in
set_option maxHeartbeats 4000000 in
theorem rdays2_any (y : Int) (w : World) (h0 : 1 ≤ y) (h1 : y ≤ 100000) : Calls Tryd.prog 68 #[.int .i64 y] w (fun x w' => x = .returned (.int .i64 (D2 y)) ∧ w' = w) := by
  have H1 := Lib.hid (fun u => rahead_any y u h0 h1)
  have H2 := Lib.hid (fun u => rahead_any 1970 u (by decide) (by decide))
  rw [ahead70] at H2
  have HD := Lib.hid (show D2 y = aheadL y - 719528 from rfl)
  obtain ⟨a0, a1⟩ := aheadL_b y h0 h1
  obtain ⟨a, ha⟩ : ∃ a, aheadL y = a := ⟨_, rfl⟩
  rw [ha] at H1 HD a0 a1
  clear ha
  go_enter Tryd.func68, Tryd.ntmps68
  go_wp2_with fail
  (with_reducible refine (H1.out _).mono ?_)
  rintro x w1 ⟨rfl, rfl⟩
  go_wp2_with fail
  (with_reducible refine (H2.out _).mono ?_)
  rintro x w1 ⟨rfl, rfl⟩
  go_wp2_with fail
  go_ret
  exact ⟨by rw [HD.out]; rfl, rfl⟩
end
end Go.Proofs.YtdkfemmjoabbcaaDoor.Walks
namespace Go.Proofs.YtdkfemmjoabbcaaDoor.Walks
open Go Go.RowKit Go.Proofs.YtdkfemmjoabbcaaDoor.Aid Go.Proofs.YtdkfemmjoabbcaaDoor.Pth Go.Proofs.YtdkfemmjoabbcaaDoor.Own Go.Proofs.YtdkfemmjoabbcaaDoorW.PrintWords

set_option maxRecDepth 100000 in
set_option maxHeartbeats 4000000 in
theorem rmonth_any (y : Int) (k : Nat) (w : World) (h0 : 0 ≤ y) (h1 : y ≤ 100000) (hk : k < 12) : Calls Tryd.prog 65 #[.int .i64 y, .int .i64 ((k : Int) + 1)] w (fun x w' => x = .returned (.int .i64 (monthL y k)) ∧ Only (fun _ => False) w w') := by
  have HO := Lib.hid ((Only.refl (fun _ => False) w).alloc (.cells #[.int .i64 31, .int .i64 28, .int .i64 31, .int .i64 30, .int .i64 31, .int .i64 30, .int .i64 31, .int .i64 31, .int .i64 30, .int .i64 31, .int .i64 30, .int .i64 31] 3))
  have HLp := Lib.hid (fun u => rleap_any y u h0 h1)
  obtain ⟨lp, hlp⟩ : ∃ lp, leapL y = lp := ⟨_, rfl⟩
  rw [hlp] at HLp
  have HM := Lib.hid (show monthL y k = mtab.getD k 0 + if k = 1 ∧ lp = true then 1 else 0 by unfold monthL; rw [hlp])
  clear hlp
  rcases (show k = 0 ∨ k = 1 ∨ k = 2 ∨ k = 3 ∨ k = 4 ∨ k = 5 ∨ k = 6 ∨ k = 7 ∨ k = 8 ∨ k = 9 ∨ k = 10 ∨ k = 11 by omega) with rfl | rfl | rfl | rfl | rfl | rfl | rfl | rfl | rfl | rfl | rfl | rfl
  rotate_left 1
  · have hk1 : (((1 : Nat) : Int) + 1) = 2 := rfl
    rw [hk1]
    clear hk hk1
    cases lp
    all_goals
      go_enter Tryd.func65, Tryd.ntmps65
      go_wp2_with (go_at_call 77; (with_reducible refine (HLp.out _).mono ?_); rintro x w1 ⟨rfl, rfl⟩)
      go_ret
      exact ⟨by rw [HM.out]; rfl, HO.out⟩
  all_goals
    go_enter Tryd.func65, Tryd.ntmps65
    go_wp2_with fail
    go_ret
    exact ⟨by rw [HM.out]; rfl, HO.out⟩
theorem monthL_b (y : Int) (k : Nat) : monthL y k ≤ 100 := by
  unfold monthL
  have : mtab.getD k 0 ≤ 31 := by
    rcases Nat.lt_or_ge k 12 with h | h
    · rcases (show k = 0 ∨ k = 1 ∨ k = 2 ∨ k = 3 ∨ k = 4 ∨ k = 5 ∨ k = 6 ∨ k = 7 ∨ k = 8 ∨ k = 9 ∨ k = 10 ∨ k = 11 by omega) with rfl | rfl | rfl | rfl | rfl | rfl | rfl | rfl | rfl | rfl | rfl | rfl <;> decide
    · rw [List.getD_eq_getElem?_getD, List.getElem?_eq_none (by show 12 ≤ k; exact h)]; decide
  split <;> omega
theorem cumN_b (y : Int) : ∀ k : Nat, cumN y k ≤ 100 * (k : Int)
  | 0 => by show (0 : Int) ≤ _; omega
  | k + 1 => by
    have a := cumN_b y k
    have b := monthL_b y k
    show cumN y k + monthL y k ≤ _
    omega
theorem cumN_nn (y : Int) (k : Nat) : 0 ≤ cumN y k := by have := cumN_le y 0 k; rw [Nat.zero_add] at this; exact this
theorem D2_b (y : Int) (h0 : 1 ≤ y) (h1 : y ≤ 100000) : -1000000 ≤ D2 y ∧ D2 y ≤ 100000000 := by unfold D2 aheadL; omega
set_option maxRecDepth 100000 in
set_option maxHeartbeats 4000000 in
theorem rdays_any (y d : Int) (k : Nat) (w : World) (hy : 1980 ≤ y ∧ y ≤ 2107) (hk : k < 12) (hd : 1 ≤ d ∧ d ≤ 31) :
    Calls Tryd.prog 66 #[.int .i64 y, .int .i64 ((k : Int) + 1), .int .i64 d] w (fun x w' => x = .returned (.int .i64 (daysL y ((k : Int) + 1) d)) ∧ Only (fun _ => False) w w') := by
  have hc := cal_ok hy hk
  obtain ⟨y0, y1⟩ := hy
  obtain ⟨d0, d1⟩ := hd
  have HR := Lib.hid (show daysL y ((k : Int) + 1) d = D2 y + cumN y k + d - 1 by rw [daysL_add]; have := hc.day; omega)
  have q0 : decide (y < -100000) = false := decide_eq_false (by omega)
  have q1 : decide (y > 100000) = false := decide_eq_false (by omega)
  have q2 : decide ((k : Int) + 1 < 1) = false := decide_eq_false (by omega)
  have q3 : decide ((k : Int) + 1 > 12) = false := decide_eq_false (by omega)
  have q4 : decide (d < 1) = false := decide_eq_false (by omega)
  have q5 : decide (d > 31) = false := decide_eq_false (by omega)
  have HA := Lib.hid (fun u => rahead_any y u (by omega) (by omega))
  have H70 := Lib.hid (fun u => rahead_any 1970 u (by decide) (by decide))
  rw [ahead70] at H70
  have HMo := Lib.hid (fun (j : Nat) (h : j < 12) u => rmonth_any y j u (by omega) (by omega) h)
  have HD2 := Lib.hid (show aheadL y - 719528 = D2 y from rfl)
  obtain ⟨a0, a1⟩ := aheadL_b y (by omega) (by omega)
  obtain ⟨e0, e1⟩ := D2_b y (by omega) (by omega)
  obtain ⟨a, ha⟩ : ∃ a, aheadL y = a := ⟨_, rfl⟩
  rw [ha] at HA HD2 a0 a1
  have HK := Lib.hid hk
  have kb : k ≤ 12 := by omega
  obtain ⟨D, hD⟩ : ∃ D, D2 y = D := ⟨_, rfl⟩
  rw [hD] at HR HD2 e0 e1
  clear ha hc hD hk
  go_enter Tryd.func66, Tryd.ntmps66
  go_wp2_with fail
  (with_reducible refine (HA.out _).mono ?_)
  rintro x w1 ⟨rfl, hw⟩
  obtain rfl := hw.symm
  go_wp2_with fail
  (with_reducible refine (H70.out _).mono ?_)
  rintro x w1 ⟨rfl, hw⟩
  obtain rfl := hw.symm
  go_wp2_with fail
  rw [HD2.out]
  go_loopw [7, 8] (fun v7 v8 u => ∃ j : Nat, v8 = .int .i64 ((j : Int) + 1) ∧ j ≤ k ∧ v7 = .int .i64 (D + cumN y j) ∧ Hid (Only (fun _ => False) w u)) (fun _ i _ => k + 1 - (intOf i).toNat)
  case atStart => exact ⟨0, rfl, by omega, by show Value.int .i64 D = Value.int .i64 (D + 0); rw [Int.add_zero], Lib.hid (Only.refl _ _)⟩
  case round =>
    obtain ⟨j, rfl, hj, rfl, HU⟩ := hrel
    have c0 := cumN_nn y j
    have c1 := cumN_b y j
    by_cases cj : j < k
    · have p1 : decide ((j : Int) + 1 < (k : Int) + 1) = true := decide_eq_true (by omega)
      have p1' : decide ((j : Int) < (k : Int)) = true := decide_eq_true (by omega)
      have p2' : decide (j < k) = true := decide_eq_true cj
      have HM1 := Lib.hid (fun u => HMo.out j (by have := HK.out; omega) u)
      have HS := Lib.hid (show cumN y (j + 1) = cumN y j + monthL y j from rfl)
      have m0 := monthL_nn y j
      have m1 := monthL_b y j
      obtain ⟨c, hc⟩ : ∃ c, cumN y j = c := ⟨_, rfl⟩
      obtain ⟨m, hm⟩ : ∃ m, monthL y j = m := ⟨_, rfl⟩
      rw [hc] at c0 c1 HS
      rw [hm] at m0 m1 HS HM1
      rw [hc]
      clear hc hm
      go_wp2_with (go_at_call 65; (with_reducible refine (HM1.out _).mono ?_); rintro x w2 ⟨rfl, h2⟩; have H2 := Lib.hid (HU.out.trans' h2); clear h2)
      exact ⟨⟨j + 1, by simp, by omega, by rw [HS.out, Int.add_assoc], H2⟩, by simp [intOf]; omega⟩
    · obtain rfl : j = k := by omega
      have p1 : decide ((j : Int) + 1 < (j : Int) + 1) = false := decide_eq_false (by omega)
      obtain ⟨c, hc⟩ : ∃ c, cumN y j = c := ⟨_, rfl⟩
      rw [hc] at c0 c1 HR
      rw [hc]
      clear hc
      go_wp2_with fail
      go_ret
      exact ⟨by rw [HR.out]; rfl, HU.out⟩
end Go.Proofs.YtdkfemmjoabbcaaDoor.Walks
namespace Go.Proofs.YtdkfemmjoabbcaaDoor.Walks
open Go Go.RowKit Go.Proofs.YtdkfemmjoabbcaaDoor.Aid Go.Proofs.YtdkfemmjoabbcaaDoor.Pth Go.Proofs.YtdkfemmjoabbcaaDoor.Own Go.Proofs.YtdkfemmjoabbcaaDoorW.PrintWords

set_option maxRecDepth 100000 in
set_option maxHeartbeats 4000000 in
theorem rdate_any (s : Int) (w : World) (h0 : 315532800 ≤ s) (h1 : s ≤ 4354819199) :
    Calls Tryd.prog 52 #[.int .i64 s] w (fun x w' => x = .returned (secD (s / 86400) (s % 86400)) ∧ Only (fun _ => False) w w') := by
  have hday := day_ok (s / 86400) (by omega) (by omega)
  have HF := Lib.hid (fun u => rfloor_any s 86400 u (by omega) (by omega) (by omega))
  have hrr : s - s / 86400 * 86400 = s % 86400 := by omega
  have n0 : 0 ≤ s / 86400 := by omega
  have n1 : s / 86400 ≤ 100000 := by omega
  have r0 : 0 ≤ s % 86400 := by omega
  have r1 : s % 86400 < 86400 := by omega
  obtain ⟨n, hn⟩ : ∃ n, s / 86400 = n := ⟨_, rfl⟩
  obtain ⟨r, hr⟩ : ∃ r, s % 86400 = r := ⟨_, rfl⟩
  rw [hn, hr] at hrr ⊢
  rw [hn] at HF hday n0 n1
  rw [hr] at r0 r1
  have HRr := Lib.hid hrr
  have HF2 := Lib.hid (fun u => rfloor_any n 366 u (by omega) (by omega) (by omega))
  unfold secD
  obtain ⟨Y, hY⟩ : ∃ Y, cY n = Y := ⟨_, rfl⟩
  obtain ⟨M, hM⟩ : ∃ M, cM n = M := ⟨_, rfl⟩
  obtain ⟨D, hD⟩ : ∃ D, cD n = D := ⟨_, rfl⟩
  have hy := hday.y
  have hm := hday.m
  have hd := hday.d
  have he := hday.e
  have hnn := hday.n
  rw [hY] at hy hd hnn
  rw [hM] at hm hd hnn
  rw [hD] at hd he hnn
  rw [hY, hM, hD]
  obtain ⟨k, hk⟩ : ∃ k : Nat, M = (k : Int) + 1 := ⟨(M - 1).toNat, by omega⟩
  subst hk
  have hk : k < 12 := by omega
  have hc := cal_ok hy hk
  rw [← hc.mon] at hd
  have hN : n = D2 Y + cumN Y k + D - 1 := by rw [← hnn, daysL_add]; have := hc.day; omega
  have hTop : n < D2 (Y + 1) := by have := hc.top; have := hc.day; have := hc.mon; omega
  have hLow : D2 Y ≤ n := by have := hc.cum; omega
  have hQ : n / 366 + 1970 ≤ Y := by have := hc.big; omega
  have q0 : 0 ≤ n / 366 := by omega
  have q1 : n / 366 ≤ 1000 := by omega
  obtain ⟨q, hq⟩ : ∃ q, n / 366 = q := ⟨_, rfl⟩
  rw [hq] at HF2 hQ q0 q1
  have HN := Lib.hid hN
  have HT := Lib.hid (And.intro hTop hLow)
  have HD := Lib.hid hd
  have HK := Lib.hid hk
  have d0 := hd.1
  have d1 := he
  obtain ⟨y0, y1⟩ := hy
  have kb : k ≤ 12 := by omega
  have a1 : decide (s < -1099511627776) = false := decide_eq_false (by omega)
  have a2 : decide (s > 1099511627776) = false := decide_eq_false (by omega)
  have a3 : decide (n < 0) = false := decide_eq_false (by omega)
  have s0 : 0 ≤ s := by omega
  have s1 : s ≤ 5000000000 := by omega
  clear hn hr hY hM hD hday hq hrr hN hTop hLow hd he hnn hm h0 h1 hc hk
  have hO1 := (Only.refl (fun _ => False) w).alloc (.cells (drow 0 0 0 0 0 0) 53)
  have hB1 := alloc_new w (.cells (drow 0 0 0 0 0 0) 53)
  go_enter Tryd.func52, Tryd.ntmps52
  go_upto_region 3 with (fail)
  change Code.wp Tryd.prog _ _ _ (w.alloc (.cells (drow 0 0 0 0 0 0) 53))
  obtain ⟨g0, hg0⟩ : ∃ g0, w.heap.size = g0 := ⟨_, rfl⟩
  obtain ⟨W, hW⟩ : ∃ W, w.alloc (.cells (drow 0 0 0 0 0 0) 53) = W := ⟨_, rfl⟩
  rw [hg0, hW] at hB1
  rw [hW] at hO1
  rw [hg0, hW]
  have HO := Lib.hid hO1
  have HB := Lib.hid hB1
  have HG := Lib.hid (show w.heap.size ≤ g0 by omega)
  clear hO1 hB1 hg0 hW
  go_upto_region 5 with (go_at_call 67; (with_reducible refine (HF.out _).mono ?_); rintro x w1 ⟨rfl, hw⟩; obtain rfl := hw.symm)
  rw [HRr.out]
  go_upto_region 6 with (go_at_call 67; (with_reducible refine (HF2.out _).mono ?_); rintro x w1 ⟨rfl, hw⟩; obtain rfl := hw.symm)
  go_wp2_with fail
  go_loopw [5] (fun v5 u => ∃ c : Int, v5 = .int .i64 c ∧ 1970 ≤ c ∧ c ≤ Y ∧ u = W) (fun i _ => (Y - intOf i).toNat)
  case atStart => exact ⟨1970 + q, rfl, by omega, by omega, rfl⟩
  case round =>
    obtain ⟨c, rfl, hc0, hc1, hww⟩ := hrel
    obtain rfl := hww.symm
    have HD2 := Lib.hid (fun u => rdays2_any (c + 1) u (by omega) (by omega))
    obtain ⟨e0, e1⟩ := D2_b (c + 1) (by omega) (by omega)
    by_cases cc : c < Y
    · have g1 : decide (D2 (c + 1) ≤ n) = true := decide_eq_true (Int.le_trans (D2_le (by omega)) HT.out.2)
      obtain ⟨a, ha⟩ : ∃ a, D2 (c + 1) = a := ⟨_, rfl⟩
      rw [ha] at g1 HD2 e0 e1
      clear ha
      go_wp2_with (go_at_call 68; (with_reducible refine (HD2.out _).mono ?_); rintro x w1 ⟨rfl, hw⟩; obtain rfl := hw.symm)
      exact ⟨⟨c + 1, rfl, by omega, by omega, by trivial⟩, by simp [intOf]; omega⟩
    · obtain rfl : c = Y := by omega
      have g1 : decide (D2 (c + 1) ≤ n) = false := decide_eq_false (by have := HT.out.1; omega)
      obtain ⟨a, ha⟩ : ∃ a, D2 (c + 1) = a := ⟨_, rfl⟩
      rw [ha] at g1 HD2 e0 e1
      clear ha
      go_upto_region 8 with (fail)
      go_wp2_with (go_at_call 68; (with_reducible refine (HD2.out _).mono ?_); rintro x w1 ⟨rfl, hw⟩; obtain rfl := hw.symm)
      clear HD2 g1
      have HD3 := Lib.hid (fun u => rdays2_any c u (by omega) (by omega))
      obtain ⟨f0, f1⟩ := D2_b c (by omega) (by omega)
      have g2 : decide (D2 c > n) = false := decide_eq_false (by have := HT.out.2; omega)
      obtain ⟨b, hb⟩ : ∃ b, D2 c = b := ⟨_, rfl⟩
      rw [hb] at HD3 f0 f1 g2 HN
      go_loopw [5] (fun v5 u => v5 = .int .i64 c ∧ u = W) (fun _ _ => 0)
      case atStart => exact ⟨rfl, rfl⟩
      case round =>
        obtain ⟨rfl, hww2⟩ := hrel
        obtain rfl := hww2.symm
        go_wp2_with (go_at_call 68; (with_reducible refine (HD3.out _).mono ?_); rintro x w1 ⟨rfl, hw⟩; obtain rfl := hw.symm)
        go_loopw [3, 6] (fun v3 v6 u => ∃ j : Nat, v6 = .int .i64 ((j : Int) + 1) ∧ j ≤ k ∧ v3 = .int .i64 (n - b - cumN c j) ∧ Hid (Only (fun _ => False) W u)) (fun _ i _ => k + 1 - (intOf i).toNat)
        case atStart => exact ⟨0, rfl, by omega, by show Value.int .i64 (n - b) = Value.int .i64 (n - b - 0); rw [Int.sub_zero], Lib.hid (Only.refl _ _)⟩
        case round =>
          obtain ⟨j, rfl, hj, rfl, HU⟩ := hrel
          have HMo := Lib.hid (fun u => rmonth_any c j u (by omega) (by omega) (by have := HK.out; omega))
          have m0 := monthL_nn c j
          have m1 := monthL_b c j
          have c0 := cumN_nn c j
          have c1 := cumN_b c j
          by_cases cj : j < k
          · have HS := Lib.hid (show cumN c (j + 1) = cumN c j + monthL c j from rfl)
            have hle := cumN_le c (j + 1) (k - (j + 1))
            rw [show j + 1 + (k - (j + 1)) = k by omega] at hle
            have g3 : decide (n - b - cumN c j ≥ monthL c j) = true := decide_eq_true (by have := HN.out; have := HS.out; omega)
            obtain ⟨m, hm⟩ : ∃ m, monthL c j = m := ⟨_, rfl⟩
            obtain ⟨cu, hcu⟩ : ∃ cu, cumN c j = cu := ⟨_, rfl⟩
            rw [hm] at m0 m1 HMo HS g3
            rw [hcu] at c0 c1 HS g3
            rw [hcu]
            clear hm hcu hle
            go_wp2_with fail
            (with_reducible refine (HMo.out _).mono ?_)
            rintro x w2 ⟨rfl, h2⟩
            have H2 := Lib.hid (HU.out.trans' h2)
            clear h2
            go_wp2_with fail
            (with_reducible refine (HMo.out _).mono ?_)
            rintro x w3 ⟨rfl, h3⟩
            have H3 := Lib.hid (H2.out.trans' h3)
            clear h3
            go_wp2_with fail
            exact ⟨⟨j + 1, by simp, by omega, by rw [HS.out]; congr 1; omega, H3⟩, by simp [intOf]; omega⟩
          · obtain rfl : j = k := by omega
            have g3 : decide (n - b - cumN c j ≥ monthL c j) = false := decide_eq_false (by have := HN.out; have := HD.out; omega)
            have HDd := Lib.hid (show n - b - cumN c j + 1 = D by have := HN.out; omega)
            obtain ⟨m, hm⟩ : ∃ m, monthL c j = m := ⟨_, rfl⟩
            obtain ⟨cu, hcu⟩ : ∃ cu, cumN c j = cu := ⟨_, rfl⟩
            rw [hm] at m0 m1 HMo g3
            rw [hcu] at c0 c1 g3 HDd
            rw [hcu]
            clear hm hcu
            go_wp2_with (first
              | (go_at_call 65; (with_reducible refine (HMo.out _).mono ?_); rintro x w2 ⟨rfl, h2⟩; have H2 := Lib.hid (HU.out.trans' h2); clear h2)
              | ((with_reducible refine gate_store 53 rfl ?_); refine store_date (cs0 := drow 0 0 0 0 0 0) rfl rfl c ((j : Int) + 1) (n - b - cu + 1) (r / 3600) (r / 60 % 60) (r % 60) _ _ rfl rfl rfl (H2.out.keeps HB.out id) ?_; intro w5 hb5 ho5; have HL5 := Lib.hid (loadD hb5); have HO5 := Lib.hid ho5; clear hb5 ho5))
            refine bodyPost_ret (results_cell1 rfl rfl HL5.out) rfl ?_
            exact ⟨by rw [HDd.out], (HO.out.trans' H2.out).trans HO5.out (fun k hk => Or.inr (by rw [hk]; exact HG.out))⟩
end Go.Proofs.YtdkfemmjoabbcaaDoor.Walks
