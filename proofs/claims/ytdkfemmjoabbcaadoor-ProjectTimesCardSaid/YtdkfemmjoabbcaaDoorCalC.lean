/- The calendar from 1980 to 2107, reckoned day by day by the kernel: plain. -/
import Derived.Test.YtdkfemmjoabbcaaDoorCal
namespace Go.Proofs.YtdkfemmjoabbcaaDoor.Walks
open Go Go.RowKit Go.Proofs.YtdkfemmjoabbcaaDoor.Aid

/-- The same in whole numbers from nought on. -/
def dN (y m d : Nat) : Nat := y / 400 * 146097 + y % 400 * 365 + y % 400 / 4 - y % 400 / 100 + ((153 * ((m + 9) % 12) + 2) / 5 + d - 1)
def yN (y m : Nat) : Nat := if Nat.ble m 2 then y - 1 else y
/-- One day: its year, month, day; 719468 more than the day's number. -/
def okN (k : Nat) : Bool :=
  let o := k % 146097
  let y := (o - o / 1460 + o / 36524 - o / 146096) / 365
  let b := 365 * y + y / 4 - y / 100
  let i := o - b
  let m := (5 * i + 2) / 153
  let d := i - (153 * m + 2) / 5 + 1
  let e := k / 146097
  let Y := if Nat.ble 10 m then y + e * 400 + 1 else y + e * 400
  let M := if Nat.ble 10 m then m - 9 else m + 3
  let a := dN (yN Y M) M d
  Nat.ble b o && Nat.ble ((153 * m + 2) / 5) i && Nat.ble 1980 Y && Nat.ble Y 2107 && Nat.ble 1 M && Nat.ble M 12 && Nat.ble d 31 && Nat.beq a k &&
    (if Nat.beq M 12 then true else Nat.ble (d + dN (yN Y M) M 1) (dN (yN Y (M + 1)) (M + 1) 1))
def okAll : Nat → Nat → Bool
  | 0, k => okN k
  | j + 1, k => okAll j k && okAll j (k + 2 ^ j)
theorem okAll_at : ∀ (j k n : Nat), okAll j k = true → k ≤ n → n < k + 2 ^ j → okN n = true
  | 0, k, n, h, h1, h2 => by
    have : n = k := by simp at h2; omega
    rw [this]; exact h
  | j + 1, k, n, h, h1, h2 => by
    unfold okAll at h
    rw [Bool.and_eq_true] at h
    rw [Nat.pow_succ] at h2
    by_cases c : n < k + 2 ^ j
    · exact okAll_at j k n h.1 h1 c
    · exact okAll_at j _ n h.2 (by omega) (by omega)
theorem ok_723120 : okAll 12 723120 = true := by kernel_rfl
theorem ok_727216 : okAll 12 727216 = true := by kernel_rfl
theorem ok_731312 : okAll 12 731312 = true := by kernel_rfl
theorem ok_735408 : okAll 12 735408 = true := by kernel_rfl
theorem ok_739504 : okAll 12 739504 = true := by kernel_rfl
theorem ok_743600 : okAll 12 743600 = true := by kernel_rfl
theorem ok_747696 : okAll 12 747696 = true := by kernel_rfl
theorem ok_751792 : okAll 12 751792 = true := by kernel_rfl
theorem ok_755888 : okAll 12 755888 = true := by kernel_rfl
theorem ok_759984 : okAll 12 759984 = true := by kernel_rfl
theorem ok_764080 : okAll 12 764080 = true := by kernel_rfl
theorem ok_768176 : okAll 10 768176 = true := by kernel_rfl
theorem ok_769200 : okAll 9 769200 = true := by kernel_rfl
theorem ok_769712 : okAll 7 769712 = true := by kernel_rfl
theorem ok_769840 : okAll 4 769840 = true := by kernel_rfl
theorem ok_769856 : okAll 3 769856 = true := by kernel_rfl
theorem ok_769864 : okAll 2 769864 = true := by kernel_rfl
theorem ok_769868 : okAll 1 769868 = true := by kernel_rfl
theorem ok_769870 : okAll 0 769870 = true := by kernel_rfl
theorem ok_all (n : Nat) (h0 : 723120 ≤ n) (h1 : n < 769871) : okN n = true := by
  by_cases c723120 : n < 727216
  · exact okAll_at 12 723120 n ok_723120 (by omega) (by simpa using c723120)
  by_cases c727216 : n < 731312
  · exact okAll_at 12 727216 n ok_727216 (by omega) (by simpa using c727216)
  by_cases c731312 : n < 735408
  · exact okAll_at 12 731312 n ok_731312 (by omega) (by simpa using c731312)
  by_cases c735408 : n < 739504
  · exact okAll_at 12 735408 n ok_735408 (by omega) (by simpa using c735408)
  by_cases c739504 : n < 743600
  · exact okAll_at 12 739504 n ok_739504 (by omega) (by simpa using c739504)
  by_cases c743600 : n < 747696
  · exact okAll_at 12 743600 n ok_743600 (by omega) (by simpa using c743600)
  by_cases c747696 : n < 751792
  · exact okAll_at 12 747696 n ok_747696 (by omega) (by simpa using c747696)
  by_cases c751792 : n < 755888
  · exact okAll_at 12 751792 n ok_751792 (by omega) (by simpa using c751792)
  by_cases c755888 : n < 759984
  · exact okAll_at 12 755888 n ok_755888 (by omega) (by simpa using c755888)
  by_cases c759984 : n < 764080
  · exact okAll_at 12 759984 n ok_759984 (by omega) (by simpa using c759984)
  by_cases c764080 : n < 768176
  · exact okAll_at 12 764080 n ok_764080 (by omega) (by simpa using c764080)
  by_cases c768176 : n < 769200
  · exact okAll_at 10 768176 n ok_768176 (by omega) (by simpa using c768176)
  by_cases c769200 : n < 769712
  · exact okAll_at 9 769200 n ok_769200 (by omega) (by simpa using c769200)
  by_cases c769712 : n < 769840
  · exact okAll_at 7 769712 n ok_769712 (by omega) (by simpa using c769712)
  by_cases c769840 : n < 769856
  · exact okAll_at 4 769840 n ok_769840 (by omega) (by simpa using c769840)
  by_cases c769856 : n < 769864
  · exact okAll_at 3 769856 n ok_769856 (by omega) (by simpa using c769856)
  by_cases c769864 : n < 769868
  · exact okAll_at 2 769864 n ok_769864 (by omega) (by simpa using c769864)
  by_cases c769868 : n < 769870
  · exact okAll_at 1 769868 n ok_769868 (by omega) (by simpa using c769868)
  exact okAll_at 0 769870 n ok_769870 (by omega) (by simpa using h1)
theorem dN_z {z m d : Nat} (hd : 1 ≤ d) : ((dN z m d : Nat) : Int) = (z : Int) / 400 * 146097 + (z : Int) % 400 * 365 + (z : Int) % 400 / 4 - (z : Int) % 400 / 100 + ((153 * (((m : Int) + 9) % 12) + 2) / 5 + (d : Int) - 1) := by
  unfold dN
  have e1 : z / 400 * 146097 + z % 400 * 365 + z % 400 / 4 - z % 400 / 100 + ((153 * ((m + 9) % 12) + 2) / 5 + d - 1) + z % 400 / 100 + 1 = z / 400 * 146097 + z % 400 * 365 + z % 400 / 4 + ((153 * ((m + 9) % 12) + 2) / 5 + d) := by omega
  have e2 := congrArg (fun x : Nat => (x : Int)) e1
  simp only [Int.natCast_add, Int.natCast_mul, Int.natCast_ediv, Int.natCast_emod] at e2
  generalize (z / 400 * 146097 + z % 400 * 365 + z % 400 / 4 - z % 400 / 100 : Nat) = X at e2 ⊢
  generalize ((153 * ((m + 9) % 12) + 2) / 5 + d - 1 : Nat) = Y at e2 ⊢
  rw [Int.natCast_add]
  have c1 : ((400 : Nat) : Int) = 400 := rfl
  have c2 : ((146097 : Nat) : Int) = 146097 := rfl
  have c3 : ((365 : Nat) : Int) = 365 := rfl
  have c4 : ((4 : Nat) : Int) = 4 := rfl
  have c5 : ((100 : Nat) : Int) = 100 := rfl
  have c6 : ((153 : Nat) : Int) = 153 := rfl
  have c7 : ((9 : Nat) : Int) = 9 := rfl
  have c8 : ((12 : Nat) : Int) = 12 := rfl
  have c9 : ((2 : Nat) : Int) = 2 := rfl
  have c0 : ((5 : Nat) : Int) = 5 := rfl
  have ca : ((1 : Nat) : Int) = 1 := rfl
  rw [c1, c2, c3, c4, c5, c6, c7, c8, c9, c0, ca] at e2
  generalize (z : Int) / 400 * 146097 = a1 at e2 ⊢
  generalize (z : Int) % 400 / 4 = a2 at e2 ⊢
  generalize (z : Int) % 400 / 100 = a3 at e2 ⊢
  generalize (153 * (((m : Int) + 9) % 12) + 2) / 5 = a4 at e2 ⊢
  generalize (z : Int) % 400 * 365 = a5 at e2 ⊢
  omega
theorem dN_int {y m d : Nat} (hy : 1 ≤ y) (hd : 1 ≤ d) : daysL (y : Int) (m : Int) (d : Int) = (dN (yN y m) m d : Int) - 719468 := by
  rw [dN_z hd]
  unfold daysL yy yN
  by_cases c : m ≤ 2
  · rw [Nat.ble_eq_true_of_le c, if_pos rfl, if_pos (by omega), show ((y - 1 : Nat) : Int) = (y : Int) - 1 by omega]
  · have e : Nat.ble m 2 = false := by rw [Bool.eq_false_iff]; intro h; exact c (Nat.le_of_ble_eq_true h)
    rw [e, if_neg Bool.false_ne_true, if_neg (by omega)]
theorem ble_f {a b : Nat} (h : ¬ a ≤ b) : Nat.ble a b = false := by rw [Bool.eq_false_iff]; intro c; exact h (Nat.le_of_ble_eq_true c)
/-- What a day is. -/
structure DayOk (n : Int) : Prop where
  i : 0 ≤ ci n
  y : 1980 ≤ cY n ∧ cY n ≤ 2107
  m : 1 ≤ cM n ∧ cM n ≤ 12
  d : 1 ≤ cD n ∧ cD n ≤ longL (cY n) (cM n)
  e : cD n ≤ 31
  n : daysL (cY n) (cM n) (cD n) = n
theorem day_ok (n : Int) (h0 : 3652 ≤ n) (h1 : n ≤ 50402) : DayOk n := by
  obtain ⟨k, hk⟩ : ∃ k : Nat, n = (k : Int) - 719468 := ⟨(n + 719468).toNat, by omega⟩
  have hok := ok_all k (by omega) (by omega)
  unfold okN at hok
  simp only [Bool.and_eq_true] at hok
  obtain ⟨o, ho⟩ : ∃ o, k % 146097 = o := ⟨_, rfl⟩
  obtain ⟨e, he⟩ : ∃ e, k / 146097 = e := ⟨_, rfl⟩
  rw [ho, he] at hok
  obtain ⟨y, hy⟩ : ∃ y, (o - o / 1460 + o / 36524 - o / 146096) / 365 = y := ⟨_, rfl⟩
  rw [hy] at hok
  obtain ⟨i, hi⟩ : ∃ i, o - (365 * y + y / 4 - y / 100) = i := ⟨_, rfl⟩
  rw [hi] at hok
  obtain ⟨m, hm⟩ : ∃ m, (5 * i + 2) / 153 = m := ⟨_, rfl⟩
  rw [hm] at hok
  obtain ⟨d, hd⟩ : ∃ d, i - (153 * m + 2) / 5 + 1 = d := ⟨_, rfl⟩
  rw [hd] at hok
  obtain ⟨Y, hY⟩ : ∃ Y, (if Nat.ble 10 m = true then y + e * 400 + 1 else y + e * 400) = Y := ⟨_, rfl⟩
  rw [hY] at hok
  obtain ⟨M, hM⟩ : ∃ M, (if Nat.ble 10 m = true then m - 9 else m + 3) = M := ⟨_, rfl⟩
  rw [hM] at hok
  obtain ⟨⟨⟨⟨⟨⟨⟨⟨k1, k2⟩, k3⟩, k4⟩, k5⟩, k6⟩, k7⟩, k8⟩, k9⟩ := hok
  rw [Nat.ble_eq] at k1 k2 k3 k4 k5 k6 k7
  rw [Nat.beq_eq] at k8
  have eO : cO n = (o : Int) := by unfold cO; omega
  have eE : cE n = (e : Int) := by unfold cE; omega
  have ey : cy n = (y : Int) := by unfold cy; rw [eO]; omega
  have ei : ci n = (i : Int) := by unfold ci; rw [eO, ey]; omega
  have em : cm n = (m : Int) := by unfold cm; rw [ei]; omega
  have eD : cD n = (d : Int) := by unfold cD; rw [ei, em]; omega
  have eY : cY n = (Y : Int) := by
    unfold cY; rw [em, ey, eE]
    by_cases c : 10 ≤ m
    · rw [if_pos (Nat.ble_eq_true_of_le c)] at hY; rw [if_pos (by omega)]; omega
    · rw [ble_f c, if_neg Bool.false_ne_true] at hY; rw [if_neg (by omega)]; omega
  have eM : cM n = (M : Int) := by
    unfold cM; rw [em]
    by_cases c : 10 ≤ m
    · rw [if_pos (Nat.ble_eq_true_of_le c)] at hM; rw [if_pos (by omega)]; omega
    · rw [ble_f c, if_neg Bool.false_ne_true] at hM; rw [if_neg (by omega)]; omega
  have hd1 : 1 ≤ d := by omega
  refine ⟨by omega, by omega, by omega, ⟨by omega, ?_⟩, by omega, ?_⟩
  · rw [eY, eM, eD]
    unfold longL
    by_cases c : M = 12
    · rw [if_pos (by omega)]; omega
    · rw [if_neg (by omega)]
      have hb : Nat.beq M 12 = false := by
        rw [Bool.eq_false_iff]; intro h; exact c (Nat.eq_of_beq_eq_true h)
      rw [hb, if_neg Bool.false_ne_true, Nat.ble_eq] at k9
      have g1 := dN_int (y := Y) (m := M) (d := 1) (by omega) (by omega)
      have g2 := dN_int (y := Y) (m := M + 1) (d := 1) (by omega) (by omega)
      rw [show ((M : Int) + 1) = ((M + 1 : Nat) : Int) by omega]
      have e1 : ((1 : Nat) : Int) = 1 := rfl
      rw [e1] at g1 g2
      rw [g1, g2]
      omega
  · rw [eY, eM, eD, dN_int (by omega) hd1, k8]; omega
end Go.Proofs.YtdkfemmjoabbcaaDoor.Walks
