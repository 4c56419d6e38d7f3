/- Doubles as the model has them: a word is a sign over a rung; rungs rise with their values; to round is monotone; so a product is monotone in each factor. No condition beyond those that each lemma names. -/
import Derived.Laws.FloatArith
namespace Go.Proofs.YtihcdecdkpbpmaaDoor.Aid
open Go Ieee

/-! ### Rungs and their values -/
def BB : Nat := 4503599627370496
def INF : Nat := 9218868437227405312
def TOP : Nat := 9223372036854775808
theorem bb : Ieee.double.binade = BB := rfl
theorem ii : Ieee.double.infRung = INF := rfl
theorem tt : Ieee.double.signWeight = TOP := rfl
theorem ll : Ieee.double.leastPlace = -1074 := rfl
theorem ff : Ieee.double.fractionBits = 52 := rfl
theorem bb_pow : BB = 2 ^ 52 := rfl
/-- A rung's value, in units of 2^-1074. -/
def val (r : Nat) : Nat := if r < BB then r else (BB + r % BB) * 2 ^ (r / BB - 1)
theorem val_succ (r : Nat) : val r < val (r + 1) := by
  unfold val
  have hB : BB = 4503599627370496 := rfl
  by_cases h1 : r + 1 < BB
  · rw [if_pos (by omega), if_pos h1]; omega
  · rw [if_neg h1]
    by_cases h2 : r < BB
    · have h3 : r + 1 = BB := by omega
      rw [if_pos h2, h3]
      simp only [hB]; omega
    · rw [if_neg h2]
      have hp : 0 < 2 ^ (r / BB - 1) := Nat.two_pow_pos _
      by_cases h4 : r % BB + 1 < BB
      · have e1 : (r + 1) % BB = r % BB + 1 := by simp only [hB] at *; omega
        have e2 : (r + 1) / BB = r / BB := by simp only [hB] at *; omega
        rw [e1, e2]
        exact Nat.mul_lt_mul_of_pos_right (by omega) hp
      · have e1 : (r + 1) % BB = 0 := by simp only [hB] at *; omega
        have e2 : (r + 1) / BB - 1 = (r / BB - 1) + 1 := by simp only [hB] at *; omega
        rw [e1, e2, Nat.pow_succ]
        have h5 : r % BB < BB := Nat.mod_lt _ (by rw [hB]; decide)
        have h6 : (BB + r % BB) * 2 ^ (r / BB - 1) < (2 * BB) * 2 ^ (r / BB - 1) := Nat.mul_lt_mul_of_pos_right (by omega) hp
        have h7 : (BB + 0) * (2 ^ (r / BB - 1) * 2) = (2 * BB) * 2 ^ (r / BB - 1) := by
          rw [Nat.add_zero, Nat.mul_comm (2 ^ (r / BB - 1)) 2, ← Nat.mul_assoc, Nat.mul_comm BB 2]
        omega
theorem val_lt {r s : Nat} (h : r < s) : val r < val s := by
  induction s with
  | zero => omega
  | succ s ih =>
    by_cases e : r = s
    · subst e; exact val_succ r
    · exact Nat.lt_trans (ih (by omega)) (val_succ s)
theorem val_le {r s : Nat} (h : r ≤ s) : val r ≤ val s := by
  by_cases e : r = s
  · subst e; omega
  · exact Nat.le_of_lt (val_lt (by omega))
theorem le_of_val {r s : Nat} (h : val r ≤ val s) : r ≤ s := by
  rcases Nat.lt_or_ge s r with h1 | h1
  · have := val_lt h1; omega
  · exact h1
theorem val_zero : val 0 = 0 := rfl

/-! ### To round, at a fixed place -/
def rnd (n d : Nat) : Nat := n / 2 ^ d + (if 2 ^ d < 2 * (n % 2 ^ d) ∨ (2 ^ d = 2 * (n % 2 ^ d) ∧ n / 2 ^ d % 2 = 1) then 1 else 0)
theorem cut_eq (neg : Bool) (n d : Nat) : Toward.even.cut neg n d = rnd n d := by
  unfold Toward.cut rnd
  simp only [Nat.shiftLeft_eq, Nat.one_mul]
  by_cases h : d ≤ n.log2 + 2
  · rw [Nat.min_eq_left h]
    congr 1
    by_cases c : 2 ^ d < 2 * (n % 2 ^ d) ∨ (2 ^ d = 2 * (n % 2 ^ d) ∧ n / 2 ^ d % 2 = 1)
    · rw [if_pos c]
      have : (decide (2 ^ d < 2 * (n % 2 ^ d)) || 2 ^ d == 2 * (n % 2 ^ d) && n / 2 ^ d % 2 == 1) = true := by
        rcases c with c | ⟨c1, c2⟩
        · simp [c]
        · simp only [Bool.or_eq_true, Bool.and_eq_true, beq_iff_eq, decide_eq_true_eq]; exact Or.inr ⟨c1, c2⟩
      rw [this]; rfl
    · rw [if_neg c]
      have : (decide (2 ^ d < 2 * (n % 2 ^ d)) || 2 ^ d == 2 * (n % 2 ^ d) && n / 2 ^ d % 2 == 1) = false := by
        rw [Bool.eq_false_iff]
        intro hh
        simp only [Bool.or_eq_true, Bool.and_eq_true, beq_iff_eq, decide_eq_true_eq] at hh
        exact c hh
      rw [this]; rfl
  · rw [Nat.min_eq_right (by omega)]
    have hn : n < 2 ^ (n.log2 + 1) := Nat.lt_log2_self
    have e1 : 2 ^ (n.log2 + 2) = 2 * 2 ^ (n.log2 + 1) := by rw [Nat.pow_succ, Nat.mul_comm]
    have e2 : 2 ^ (n.log2 + 2) ≤ 2 ^ d := Nat.pow_le_pow_right (by decide) (by omega)
    generalize 2 ^ (n.log2 + 2) = g at e1 e2
    generalize 2 ^ (n.log2 + 1) = g' at hn e1
    generalize 2 ^ d = D at e2
    rw [Nat.div_eq_of_lt (a := n) (b := g) (by omega), Nat.mod_eq_of_lt (a := n) (b := g) (by omega), Nat.div_eq_of_lt (a := n) (b := D) (by omega), Nat.mod_eq_of_lt (a := n) (b := D) (by omega)]
    rw [if_neg (by omega)]
    have h1 : decide (g < 2 * n) = false := by simp; omega
    have h2 : (g == 2 * n) = false := by simp; omega
    rw [h1, h2]
    rfl
theorem rnd_mono {n m : Nat} (d : Nat) (h : n ≤ m) : rnd n d ≤ rnd m d := by
  unfold rnd
  have hp : 0 < 2 ^ d := Nat.two_pow_pos _
  generalize 2 ^ d = g at hp
  have hd : n / g ≤ m / g := Nat.div_le_div_right h
  have e1 := Nat.div_add_mod n g
  have e2 := Nat.div_add_mod m g
  by_cases he : n / g = m / g
  · rw [he] at e1 ⊢
    have hr : n % g ≤ m % g := by omega
    generalize m / g = q at e1 e2 ⊢
    split <;> split <;> omega
  · split <;> split <;> omega
theorem rnd_double (n d : Nat) : rnd (2 * n) (d + 1) = rnd n d := by
  unfold rnd
  have e : 2 ^ (d + 1) = 2 * 2 ^ d := by rw [Nat.pow_succ, Nat.mul_comm]
  rw [e, Nat.mul_div_mul_left _ _ (by decide), Nat.mul_mod_mul_left]
  generalize 2 ^ d = g
  generalize n % g = r
  generalize n / g = q
  congr 1
  by_cases c : g < 2 * r ∨ g = 2 * r ∧ q % 2 = 1
  · rw [if_pos c, if_pos (by omega)]
  · rw [if_neg c, if_neg (by omega)]
theorem rnd_zero (n : Nat) : rnd n 0 = n := by
  unfold rnd; simp; omega
theorem rnd_ge (n d : Nat) : n / 2 ^ d ≤ rnd n d := by unfold rnd; omega
theorem rnd_le (n d : Nat) : rnd n d ≤ n / 2 ^ d + 1 := by unfold rnd; split <;> omega

/-! ### The rung of a number -/
def lastOf (mag : Nat) (place : Int) : Int := max (place + mag.log2 - 52) (-1074)
def kept (mag : Nat) (place l : Int) : Nat := rnd (mag * 2 ^ (place - l).toNat) (l - place).toNat
def rung (mag : Nat) (place : Int) : Nat := if mag = 0 then 0 else min ((lastOf mag place + 1074).toNat * BB + kept mag place (lastOf mag place)) INF
theorem nearest_eq (neg : Bool) (mag : Nat) (place : Int) : Ieee.double.nearest neg mag place = Ieee.double.word neg (rung mag place) := by
  have e0 : Ieee.double.nearest neg mag place = if mag = 0 then Ieee.double.word neg 0 else
      Ieee.double.word neg (min ((lastOf mag place - -1074).toNat * BB + Toward.even.cut neg (mag <<< (place - lastOf mag place).toNat) (lastOf mag place - place).toNat) INF) := rfl
  rw [e0]
  unfold rung
  by_cases h : mag = 0
  · rw [if_pos h, if_pos h]
  · rw [if_neg h, if_neg h, cut_eq, Nat.shiftLeft_eq]
    have e2 : lastOf mag place - -1074 = lastOf mag place + 1074 := by omega
    rw [e2]
    rfl
theorem rung_le (mag : Nat) (place : Int) : rung mag place ≤ INF := by unfold rung; split; exact Nat.zero_le _; exact Nat.min_le_right _ _
theorem rung_zero (place : Int) : rung 0 place = 0 := by unfold rung; rw [if_pos rfl]
theorem rung_double (mag : Nat) (place : Int) : rung (2 * mag) (place - 1) = rung mag place := by
  by_cases h : mag = 0
  · subst h; rw [Nat.mul_zero, rung_zero, rung_zero]
  · unfold rung
    rw [if_neg (by omega), if_neg h]
    have e : lastOf (2 * mag) (place - 1) = lastOf mag place := by
      unfold lastOf
      rw [Nat.log2_two_mul h]
      push_cast
      congr 1
      omega
    rw [e]
    generalize lastOf mag place = l
    congr 2
    unfold kept
    by_cases hu : 1 ≤ place - l
    · have e1 : (l - place).toNat = 0 := by omega
      have e2 : (l - (place - 1)).toNat = 0 := by omega
      have e3 : (place - l).toNat = (place - 1 - l).toNat + 1 := by omega
      rw [e1, e2, e3, rnd_zero, rnd_zero, Nat.pow_succ, Nat.mul_comm 2 mag, Nat.mul_assoc, Nat.mul_comm 2]
    · have e1 : (place - l).toNat = 0 := by omega
      have e2 : (place - 1 - l).toNat = 0 := by omega
      have e3 : (l - (place - 1)).toNat = (l - place).toNat + 1 := by omega
      rw [e1, e2, e3]
      simp only [Nat.pow_zero, Nat.mul_one]
      exact rnd_double _ _
theorem rung_scale (k : Nat) (mag : Nat) (place : Int) : rung (mag * 2 ^ k) (place - k) = rung mag place := by
  induction k with
  | zero => simp
  | succ k ih =>
    rw [← ih, ← rung_double (mag * 2 ^ k)]
    congr 1
    · rw [Nat.pow_succ, Nat.mul_comm 2, Nat.mul_assoc]
    · push_cast; omega
theorem kept_ge {m : Nat} {p l : Int} (hm : m ≠ 0) (hl : l = p + m.log2 - 52) : BB ≤ kept m p l := by
  unfold kept
  have h1 : 2 ^ m.log2 ≤ m := Nat.log2_self_le hm
  by_cases hu : 0 ≤ p - l
  · have e1 : (l - p).toNat = 0 := by omega
    have e2 : (p - l).toNat = 52 - m.log2 := by omega
    rw [e1, e2, rnd_zero, bb_pow]
    have e3 : 52 = m.log2 + (52 - m.log2) := by omega
    calc 2 ^ 52 = 2 ^ m.log2 * 2 ^ (52 - m.log2) := by rw [← Nat.pow_add]; congr 1
      _ ≤ m * 2 ^ (52 - m.log2) := Nat.mul_le_mul_right _ h1
  · have e1 : (p - l).toNat = 0 := by omega
    have e2 : (l - p).toNat = m.log2 - 52 := by omega
    rw [e1, e2, Nat.pow_zero, Nat.mul_one]
    refine Nat.le_trans ?_ (rnd_ge _ _)
    rw [Nat.le_div_iff_mul_le (Nat.two_pow_pos _), bb_pow, ← Nat.pow_add]
    have e3 : 52 + (m.log2 - 52) = m.log2 := by omega
    rw [e3]; exact h1
theorem kept_le {m : Nat} {p l : Int} (hl : p + m.log2 - 52 ≤ l) : kept m p l ≤ 2 * BB := by
  unfold kept
  have h1 : m < 2 ^ (m.log2 + 1) := Nat.lt_log2_self
  have e53 : 2 * BB = 2 ^ 53 := rfl
  by_cases hu : 0 ≤ p - l
  · have e1 : (l - p).toNat = 0 := by omega
    rw [e1, rnd_zero, e53]
    have h2 : m * 2 ^ (p - l).toNat ≤ 2 ^ (m.log2 + 1) * 2 ^ (p - l).toNat := Nat.mul_le_mul_right _ (Nat.le_of_lt h1)
    rw [← Nat.pow_add] at h2
    exact Nat.le_trans h2 (Nat.pow_le_pow_right (by decide) (by omega))
  · have e1 : (p - l).toNat = 0 := by omega
    rw [e1, Nat.pow_zero, Nat.mul_one, e53]
    refine Nat.le_trans (rnd_le _ _) ?_
    have h2 : m / 2 ^ (l - p).toNat < 2 ^ 53 := by
      rw [Nat.div_lt_iff_lt_mul (Nat.two_pow_pos _), ← Nat.pow_add]
      exact Nat.lt_of_lt_of_le h1 (Nat.pow_le_pow_right (by decide) (by omega))
    omega
theorem rung_mono {n m : Nat} (p : Int) (h : n ≤ m) : rung n p ≤ rung m p := by
  by_cases hn : n = 0
  · subst hn; rw [rung_zero]; omega
  · have hm : m ≠ 0 := by omega
    have hlog : n.log2 ≤ m.log2 := by
      exact (Nat.le_log2 hm).2 (Nat.le_trans (Nat.log2_self_le hn) h)
    unfold rung
    rw [if_neg hn, if_neg hm]
    have hraw : (lastOf n p + 1074).toNat * BB + kept n p (lastOf n p) ≤ (lastOf m p + 1074).toNat * BB + kept m p (lastOf m p) := by
      by_cases he : lastOf n p = lastOf m p
      · rw [he]
        refine Nat.add_le_add_left ?_ _
        unfold kept
        exact rnd_mono _ (Nat.mul_le_mul_right _ h)
      · have h1 : lastOf m p = p + m.log2 - 52 := by unfold lastOf at he ⊢; omega
        have h2 : lastOf n p + 1 ≤ lastOf m p := by unfold lastOf at he ⊢; omega
        have h3 : -1074 ≤ lastOf n p := by unfold lastOf; omega
        have g1 := kept_ge hm h1
        have g2 := kept_le (m := n) (p := p) (l := lastOf n p) (by unfold lastOf; omega)
        have h4 : (lastOf n p + 1074).toNat + 1 ≤ (lastOf m p + 1074).toNat := by omega
        have h5 : ((lastOf n p + 1074).toNat + 1) * BB ≤ (lastOf m p + 1074).toNat * BB := Nat.mul_le_mul_right _ h4
        rw [Nat.add_mul, Nat.one_mul] at h5
        omega
    omega

/-! ### Words -/
def sg (w : Nat) : Bool := w / TOP % 2 == 1
def rg (w : Nat) : Nat := w % TOP
/-- A word's signed value, in units of 2^-1074 (of an infinity: more than all others). -/
def sv (w : Nat) : Int := if sg w then -(val (rg w) : Int) else (val (rg w) : Int)
def mg (r : Nat) : Nat := if r < BB then r else BB + r % BB
def pl (r : Nat) : Int := if r < BB then -1074 else -1074 + (r / BB - 1 : Nat)
theorem mg_val (r : Nat) : val r = mg r * 2 ^ (pl r + 1074).toNat := by
  unfold val mg pl
  split
  · simp
  · congr 2; omega
theorem pl_ge (r : Nat) : -1074 ≤ pl r := by unfold pl; split <;> omega
theorem read_eq (w : Nat) : Ieee.double.read w = if rg w < BB then Datum.number (sg w) (rg w) (-1074)
    else if rg w < INF then Datum.number (sg w) (BB + rg w % BB) (-1074 + (rg w / BB - 1 : Nat))
    else if rg w = INF then Datum.infinity (sg w) else Datum.nan (sg w) (rg w - INF) := rfl
theorem bb_inf : BB < INF := by unfold BB INF; omega
theorem inf_top : INF < TOP := by unfold INF TOP; omega
theorem read_fin {w : Nat} (h : rg w < INF) : Ieee.double.read w = .number (sg w) (mg (rg w)) (pl (rg w)) := by
  rw [read_eq]
  unfold mg pl
  by_cases h1 : rg w < BB
  · rw [if_pos h1, if_pos h1, if_pos h1]
  · rw [if_neg h1, if_neg h1, if_neg h1, if_pos h]
theorem read_inf {w : Nat} (h : rg w = INF) : Ieee.double.read w = .infinity (sg w) := by
  have := bb_inf
  rw [read_eq, if_neg (by omega), if_neg (by omega), if_pos h]
theorem read_nan' {w : Nat} (h : INF < rg w) : Ieee.double.read w = .nan (sg w) (rg w - INF) := by
  have := bb_inf
  rw [read_eq, if_neg (by omega), if_neg (by omega), if_neg (by omega)]
theorem word_sg (s : Bool) {r : Nat} (h : r ≤ INF) : sg (Ieee.double.word s r) = s ∧ rg (Ieee.double.word s r) = r := by
  have hI := inf_top
  have hp : 0 < TOP := by omega
  have e0 : Ieee.double.word s r = if s then TOP + r else r := rfl
  rw [e0]
  unfold sg rg
  cases s
  · simp only [Bool.false_eq_true, if_false]
    rw [Nat.mod_eq_of_lt (a := r) (by omega), Nat.div_eq_of_lt (by omega)]
    exact ⟨rfl, rfl⟩
  · simp only [if_true]
    have e1 : (TOP + r) / TOP = 1 := by rw [Nat.add_div_left _ hp, Nat.div_eq_of_lt (by omega)]
    have e2 : (TOP + r) % TOP = r := by rw [Nat.add_mod_left, Nat.mod_eq_of_lt (by omega)]
    rw [e1, e2]
    exact ⟨rfl, rfl⟩
theorem signed_eq (s : Bool) (m u : Nat) : signed s m u = if s then -((m * 2 ^ u : Nat) : Int) else ((m * 2 ^ u : Nat) : Int) := by
  unfold signed; rw [Nat.shiftLeft_eq]
theorem compare_scale (a b : Int) {k : Int} (hk : 0 < k) : compare (a * k) (b * k) = compare a b := by
  simp only [compare, compareOfLessAndEq]
  have h1 : a * k < b * k ↔ a < b := ⟨fun h => Int.lt_of_mul_lt_mul_right h (by omega), fun h => Int.mul_lt_mul_of_pos_right h hk⟩
  have h2 : a * k = b * k ↔ a = b := ⟨fun h => Int.eq_of_mul_eq_mul_right (by omega) h, fun h => by rw [h]⟩
  simp only [h1, h2]
theorem cmp_lt {a b : Int} (h : a < b) : compare a b = .lt := by simp only [compare, compareOfLessAndEq]; rw [if_pos h]
theorem cmp_eq {a b : Int} (h : a = b) : compare a b = .eq := by subst h; simp [compare, compareOfLessAndEq]
theorem cmp_gt {a b : Int} (h : b < a) : compare a b = .gt := by simp only [compare, compareOfLessAndEq]; rw [if_neg (by omega), if_neg (by omega)]
/-- How two words that are no NaN stand to each other. -/
theorem order_eq {a b : Nat} (ha : rg a ≤ INF) (hb : rg b ≤ INF) : Ieee.double.order a b = some (compare (sv a) (sv b)) := by
  unfold Format.order
  have hv : ∀ {r : Nat}, r < INF → val r < val INF := fun h => val_lt h
  by_cases ia : rg a = INF
  · by_cases ib : rg b = INF
    · rw [read_inf ia, read_inf ib]
      unfold sv
      rw [ia, ib]
      have hpos : 0 < val INF := by have := val_lt (r := 0) (s := INF) (by have := bb_inf; omega); omega
      generalize val INF = V at hpos
      cases sg a <;> cases sg b <;> simp only [Datum.order, if_true, if_false, Bool.false_eq_true] <;>
        (first | (rw [cmp_lt (by omega)]; done) | (rw [cmp_eq (by omega)]; done) | (rw [cmp_gt (by omega)]; done) | (rw [cmp_lt (by omega)]; rfl) | (rw [cmp_eq (by omega)]; rfl) | (rw [cmp_gt (by omega)]; rfl))
    · rw [read_inf ia, read_fin (by omega)]
      have hl := hv (r := rg b) (by omega)
      unfold sv
      rw [ia]
      have hpos : 0 < val INF := by omega
      cases sg a <;> cases sg b <;> simp only [Datum.order, if_true, if_false, Bool.false_eq_true] <;>
        (first | (rw [cmp_lt (by omega)]; done) | (rw [cmp_eq (by omega)]; done) | (rw [cmp_gt (by omega)]; done) | (rw [cmp_lt (by omega)]; rfl) | (rw [cmp_eq (by omega)]; rfl) | (rw [cmp_gt (by omega)]; rfl))
  · by_cases ib : rg b = INF
    · rw [read_fin (by omega), read_inf ib]
      have hl := hv (r := rg a) (by omega)
      unfold sv
      rw [ib]
      cases sg a <;> cases sg b <;> simp only [Datum.order, if_true, if_false, Bool.false_eq_true] <;>
        (first | (rw [cmp_lt (by omega)]; done) | (rw [cmp_eq (by omega)]; done) | (rw [cmp_gt (by omega)]; done) | (rw [cmp_lt (by omega)]; rfl) | (rw [cmp_eq (by omega)]; rfl) | (rw [cmp_gt (by omega)]; rfl))
    · rw [read_fin (by omega), read_fin (by omega)]
      simp only [Datum.order, signed_eq]
      congr 1
      have ga := pl_ge (rg a)
      have gb := pl_ge (rg b)
      have hk : (0 : Int) < ((2 ^ (min (pl (rg a)) (pl (rg b)) + 1074).toNat : Nat) : Int) := by
        have := Nat.two_pow_pos (min (pl (rg a)) (pl (rg b)) + 1074).toNat; omega
      rw [← compare_scale _ _ hk]
      have ea : mg (rg a) * 2 ^ (pl (rg a) - min (pl (rg a)) (pl (rg b))).toNat * 2 ^ (min (pl (rg a)) (pl (rg b)) + 1074).toNat = val (rg a) := by
        rw [mg_val, Nat.mul_assoc, ← Nat.pow_add]; congr 2; omega
      have eb : mg (rg b) * 2 ^ (pl (rg b) - min (pl (rg a)) (pl (rg b))).toNat * 2 ^ (min (pl (rg a)) (pl (rg b)) + 1074).toNat = val (rg b) := by
        rw [mg_val, Nat.mul_assoc, ← Nat.pow_add]; congr 2; omega
      congr 1
      · unfold sv; rw [← ea]; cases sg a <;> simp [Int.neg_mul]
      · unfold sv; rw [← eb]; cases sg b <;> simp [Int.neg_mul]
theorem order_nan_l {a b : Nat} (h : INF < rg a) : Ieee.double.order a b = none := by
  unfold Format.order
  rw [read_nan' h]
  cases Ieee.double.read b <;> rfl
theorem order_nan_r {a b : Nat} (h : INF < rg b) : Ieee.double.order a b = none := by
  unfold Format.order
  rw [read_nan' h]
  cases Ieee.double.read a <;> rfl

/-! ### Products -/
/-- The rung of a product of two rungs, the second one of a number above nought. -/
def prung (ra rm : Nat) : Nat := if ra < INF then rung (val ra * val rm) (-2148) else INF
theorem prung_le (ra rm : Nat) : prung ra rm ≤ INF := by unfold prung; split; exact rung_le _ _; exact Nat.le_refl _
theorem prung_zero (rm : Nat) : prung 0 rm = 0 := by
  have := bb_inf
  unfold prung; rw [if_pos (by omega), val_zero, Nat.zero_mul, rung_zero]
theorem prung_mono {ra rb rm rn : Nat} (h : ra ≤ rb) (k : rm ≤ rn) : prung ra rm ≤ prung rb rn := by
  by_cases h1 : rb < INF
  · unfold prung
    rw [if_pos (by omega), if_pos h1]
    exact rung_mono _ (Nat.mul_le_mul (val_le h) (val_le k))
  · have e : prung rb rn = INF := by unfold prung; rw [if_neg h1]
    rw [e]; exact prung_le _ _
theorem prod_rung (ra rm : Nat) : rung (mg ra * mg rm) (pl ra + pl rm) = rung (val ra * val rm) (-2148) := by
  have ga := pl_ge ra
  have gm := pl_ge rm
  rw [mg_val ra, mg_val rm, ← rung_scale ((pl ra + 1074).toNat + (pl rm + 1074).toNat) (mg ra * mg rm) (pl ra + pl rm)]
  congr 1
  · rw [Nat.pow_add, Nat.mul_assoc, Nat.mul_assoc, Nat.mul_left_comm (mg rm)]
  · omega
theorem mul_eq {a m : Nat} (ha : rg a ≤ INF) (hm : rg m < INF) (hs : sg m = false) (h0 : 0 < rg m) : Ieee.double.mul a m = some (Ieee.double.word (sg a) (prung (rg a) (rg m))) := by
  unfold Format.mul
  rw [read_fin hm, hs]
  have hp : mg (rg m) ≠ 0 := by
    intro e
    have h1 := mg_val (rg m)
    rw [e, Nat.zero_mul] at h1
    have := val_lt h0
    rw [val_zero] at this
    omega
  by_cases h : rg a < INF
  · rw [read_fin h]
    have e : (Datum.number (sg a) (mg (rg a)) (pl (rg a))).product (Datum.number false (mg (rg m)) (pl (rg m))) = some (Datum.number (sg a ^^ false) (mg (rg a) * mg (rg m)) (pl (rg a) + pl (rg m))) := rfl
    rw [e, Bool.xor_false]
    show some (Ieee.double.nearest (sg a) (mg (rg a) * mg (rg m)) (pl (rg a) + pl (rg m))) = _
    rw [nearest_eq, prod_rung]
    unfold prung
    rw [if_pos h]
  · have hi : rg a = INF := by omega
    rw [read_inf hi]
    have e : (Datum.infinity (sg a)).product (Datum.number false (mg (rg m)) (pl (rg m))) = if mg (rg m) = 0 then none else some (Datum.infinity (sg a ^^ false)) := rfl
    rw [e, if_neg hp, Bool.xor_false]
    show some (Ieee.double.word (sg a) Ieee.double.infRung) = _
    unfold prung
    rw [if_neg h]
    rfl
theorem mul_nan {a m : Nat} (ha : INF < rg a) : Ieee.double.mul a m = none := by
  unfold Format.mul
  rw [read_nan' ha]
  cases Ieee.double.read m <;> rfl
theorem sv_word (s : Bool) {r : Nat} (h : r ≤ INF) : sv (Ieee.double.word s r) = if s then -(val r : Int) else (val r : Int) := by
  obtain ⟨h1, h2⟩ := word_sg s h
  unfold sv
  rw [h1, h2]
/-- A product's value is monotone in its factors. -/
theorem prod_mono {a b : Nat} {rm : Nat} (h : sv a ≤ sv b) :
    sv (Ieee.double.word (sg a) (prung (rg a) rm)) ≤ sv (Ieee.double.word (sg b) (prung (rg b) rm)) := by
  rw [sv_word _ (prung_le _ _), sv_word _ (prung_le _ _)]
  unfold sv at h
  cases hsa : sg a <;> cases hsb : sg b <;> rw [hsa, hsb] at h <;> simp only [Bool.false_eq_true, if_false, if_true] at h ⊢
  · have := val_le (prung_mono (rm := rm) (le_of_val (show val (rg a) ≤ val (rg b) by omega)) (Nat.le_refl _)); omega
  · have ea : val (rg a) ≤ val 0 := by rw [val_zero]; omega
    have eb : val (rg b) ≤ val 0 := by rw [val_zero]; omega
    have e1 : rg a = 0 := by have := le_of_val ea; omega
    have e2 : rg b = 0 := by have := le_of_val eb; omega
    rw [e1, e2, prung_zero, val_zero]; omega
  · omega
  · have := val_le (prung_mono (rm := rm) (le_of_val (show val (rg b) ≤ val (rg a) by omega)) (Nat.le_refl _)); omega
end Go.Proofs.YtihcdecdkpbpmaaDoor.Aid
