/- Doubles of whole numbers, and of those over a power of two: exact sums, products, quotients, floors, whole parts; plain. No condition beyond those that each lemma names. -/
import Derived.Test.YtdkfemmjoabbcaaDoorFloat
namespace Go.Proofs.YtdkfemmjoabbcaaDoor.Aid
open Go Ieee

/-- 1, in units of 2^-1074. -/
def KU : Nat := 1074
theorem KU_eq : KU = 1074 := rfl
attribute [irreducible] KU
def UN : Nat := 2 ^ KU
theorem UN_eq : UN = 2 ^ KU := rfl
attribute [irreducible] UN
theorem UN_pos : 0 < UN := by rw [UN_eq]; exact Nat.two_pow_pos _
theorem UN_split {a b : Nat} (h : a + b = 1074) : 2 ^ a * 2 ^ b = UN := by rw [UN_eq, ← Nat.pow_add, h, KU_eq]
theorem at_zero : ((0 : Int) + 1074).toNat = KU := by rw [KU_eq]; rfl
theorem rung_sum {q B r I m : Nat} (h2 : 1 ≤ q) (h3 : B * q + m = r) (h : r < I) : min ((q - 1) * B + (B + m)) I = r := by
  obtain ⟨c, rfl⟩ : ∃ c, q = c + 1 := ⟨q - 1, by omega⟩
  rw [Nat.add_sub_cancel]
  rw [Nat.mul_comm B, Nat.add_mul, Nat.one_mul] at h3
  omega
theorem log_lt {n k : Nat} (h0 : n ≠ 0) (h : n < 2 ^ k) : n.log2 < k := (Nat.log2_lt h0).2 h
theorem le_log {n k : Nat} (h0 : n ≠ 0) (h : 2 ^ k ≤ n) : k ≤ n.log2 := (Nat.le_log2 h0).2 h
theorem rung_flat {m : Nat} {p : Int} (hp : -1074 ≤ p) : rung m p = rung (m * 2 ^ (p + 1074).toNat) (-1074) := by
  have h := rung_scale (p + 1074).toNat m p
  rw [← h]
  congr 1
  omega
theorem rung_val {r : Nat} (h : r < INF) : rung (val r) (-1074) = r := by
  by_cases h0 : r = 0
  · subst h0; rw [val_zero, rung_zero]
  have hB : BB = 4503599627370496 := rfl
  have hI : INF = 9218868437227405312 := rfl
  rw [mg_val r, ← rung_flat (pl_ge r)]
  by_cases h1 : r < BB
  · have em : mg r = r := by unfold mg; rw [if_pos h1]
    have ep : pl r = -1074 := by unfold pl; rw [if_pos h1]
    rw [em, ep]
    have hl : r.log2 < 52 := log_lt h0 (by rw [← bb_pow]; exact h1)
    have e : lastOf r (-1074) = -1074 := by unfold lastOf; omega
    unfold rung
    rw [if_neg h0, e]
    have ek : kept r (-1074) (-1074) = r := by
      unfold kept
      rw [show ((-1074 : Int) - -1074).toNat = 0 from rfl, rnd_zero, Nat.pow_zero, Nat.mul_one]
    rw [ek, show ((-1074 : Int) + 1074).toNat = 0 from rfl, Nat.zero_mul, Nat.zero_add]
    omega
  · have em : mg r = BB + r % BB := by unfold mg; rw [if_neg h1]
    have ep : pl r = -1074 + (r / BB - 1 : Nat) := by unfold pl; rw [if_neg h1]
    have hm : mg r ≠ 0 := by rw [em]; omega
    have hlt : mg r < 2 ^ 53 := by
      have : r % BB < BB := Nat.mod_lt _ (by omega)
      rw [em]; omega
    have hl : (mg r).log2 = 52 := by
      have a := log_lt hm hlt
      have b := le_log (k := 52) hm (by rw [← bb_pow, em]; omega)
      omega
    have e : lastOf (mg r) (pl r) = pl r := by unfold lastOf; rw [hl]; have := pl_ge r; omega
    unfold rung
    rw [if_neg hm, e]
    have ek : kept (mg r) (pl r) (pl r) = mg r := by
      unfold kept
      rw [show (pl r - pl r).toNat = 0 by omega, rnd_zero, Nat.pow_zero, Nat.mul_one]
    rw [ek, em, ep, show (-1074 + ((r / BB - 1 : Nat) : Int) + 1074).toNat = r / BB - 1 by omega]
    have h2 : 1 ≤ r / BB := (Nat.le_div_iff_mul_le (by omega)).2 (by omega)
    exact rung_sum h2 (Nat.div_add_mod r BB) h
/-- A value that a double has. -/
def Exact (v : Nat) : Prop := rung v (-1074) < INF ∧ val (rung v (-1074)) = v
theorem exact_val {r : Nat} (h : r < INF) : Exact (val r) := by unfold Exact; rw [rung_val h]; exact ⟨h, rfl⟩
theorem rnd_mul (q d : Nat) : rnd (q * 2 ^ d) d = q := by
  unfold rnd
  rw [Nat.mul_div_cancel _ (Nat.two_pow_pos d), Nat.mul_mod_left]
  rw [if_neg (by have := Nat.two_pow_pos d; omega)]
  rfl
theorem split_rung {d q : Nat} (h0 : BB ≤ q) (h1 : q < 2 * BB) : (d * BB + q) / BB = d + 1 ∧ (d * BB + q) % BB = q - BB := by
  have hp : 0 < BB := by rw [bb_pow]; exact Nat.two_pow_pos _
  have e : d * BB + q = (q - BB) + (d + 1) * BB := by rw [Nat.add_mul, Nat.one_mul]; omega
  rw [e]
  constructor
  · rw [Nat.add_mul_div_right _ _ hp, Nat.div_eq_of_lt (by omega), Nat.zero_add]
  · rw [Nat.add_mul_mod_self_right, Nat.mod_eq_of_lt (by omega)]
theorem exact_big {q d : Nat} (h0 : BB ≤ q) (h1 : q < 2 * BB) (hd : d ≤ 2000) : Exact (q * 2 ^ d) := by
  obtain ⟨e1, e2⟩ := split_rung (d := d) h0 h1
  have hB : BB = 4503599627370496 := rfl
  have hI : INF = 9218868437227405312 := rfl
  have hrI : d * BB + q < INF := by
    have : d * BB ≤ 2000 * BB := Nat.mul_le_mul_right _ hd
    omega
  have hval : val (d * BB + q) = q * 2 ^ d := by
    unfold val
    rw [if_neg (by omega), e1, e2, show BB + (q - BB) = q by omega, Nat.add_sub_cancel]
  have := exact_val hrI
  rw [hval] at this
  exact this
theorem exact_small {v : Nat} (h : v < BB) : Exact v := by
  have hval : val v = v := by unfold val; rw [if_pos h]
  have := exact_val (r := v) (Nat.lt_trans h bb_inf)
  rw [hval] at this
  exact this
theorem log_mul {m : Nat} (h0 : m ≠ 0) (k : Nat) : 2 ^ (m.log2 + k) ≤ m * 2 ^ k ∧ m * 2 ^ k < 2 ^ (m.log2 + 1 + k) := by
  refine ⟨?_, ?_⟩
  · rw [Nat.pow_add]; exact Nat.mul_le_mul_right _ (Nat.log2_self_le h0)
  · rw [Nat.pow_add]; exact Nat.mul_lt_mul_of_pos_right Nat.lt_log2_self (Nat.two_pow_pos k)
theorem exact_mk {m k : Nat} (hm : m < 2 ^ 53) (hk : k ≤ 2000) : Exact (m * 2 ^ k) := by
  by_cases h0 : m = 0
  · subst h0; rw [Nat.zero_mul]; exact exact_small (by rw [bb_pow]; exact Nat.two_pow_pos _)
  have hlm : m.log2 < 53 := log_lt h0 hm
  obtain ⟨hlo, hhi⟩ := log_mul h0 k
  obtain ⟨L, hL⟩ : ∃ L, m.log2 = L := ⟨_, rfl⟩
  rw [hL] at hlm hlo hhi
  by_cases h1 : L + k < 52
  · refine exact_small ?_
    rw [bb_pow]
    exact Nat.lt_of_lt_of_le hhi (Nat.pow_le_pow_right (by decide) (by omega))
  · obtain ⟨d, hd⟩ : ∃ d, L + k = 52 + d := ⟨L + k - 52, by omega⟩
    obtain ⟨c, hc⟩ : ∃ c, k = c + d := ⟨k - d, by omega⟩
    have hqv : m * 2 ^ k = m * 2 ^ c * 2 ^ d := by rw [hc, Nat.pow_add, Nat.mul_assoc]
    rw [hqv] at hlo hhi ⊢
    rw [hd, Nat.pow_add] at hlo
    rw [show L + 1 + k = 53 + d by omega, Nat.pow_add] at hhi
    refine exact_big ?_ ?_ (by omega)
    · rw [bb_pow]; exact Nat.le_of_mul_le_mul_right hlo (Nat.two_pow_pos d)
    · have := Nat.lt_of_mul_lt_mul_right hhi
      rw [bb_pow, ← Nat.pow_succ']
      exact this
/-- The word of a value. -/
def wd (s : Bool) (v : Nat) : Nat := Ieee.double.word s (rung v (-1074))
def Fnt (w : Nat) : Prop := rg w < INF
theorem wd_fnt {s : Bool} {v : Nat} (h : Exact v) : Fnt (wd s v) := by
  have := word_sg s (rung_le v (-1074))
  unfold Fnt wd; rw [this.2]; exact h.1
theorem wd_sg (s : Bool) (v : Nat) : sg (wd s v) = s := (word_sg s (rung_le v (-1074))).1
theorem wd_val {s : Bool} {v : Nat} (h : Exact v) : val (rg (wd s v)) = v := by
  have := word_sg s (rung_le v (-1074))
  unfold wd; rw [this.2]; exact h.2
theorem wd_sv {s : Bool} {v : Nat} (h : Exact v) : sv (wd s v) = if s then -(v : Int) else (v : Int) := by
  unfold sv; rw [wd_sg, wd_val h]
theorem wd_lt (s : Bool) (v : Nat) : wd s v < 2 * TOP := by
  have h1 := rung_le v (-1074)
  have h2 := inf_top
  have e : wd s v = if s then TOP + rung v (-1074) else rung v (-1074) := rfl
  rw [e]; split <;> omega
theorem wd_zero : wd false 0 = 0 := by
  have e : wd false 0 = rung 0 (-1074) := rfl
  rw [e, rung_zero]
/-- A word is its sign and its value. -/
theorem word_eq {w : Nat} (h : w < 2 * TOP) (hf : Fnt w) : w = wd (sg w) (val (rg w)) := by
  have hI := inf_top
  unfold wd
  rw [rung_val hf]
  have e0 : Ieee.double.word (sg w) (rg w) = if sg w then TOP + rg w else rg w := rfl
  rw [e0]
  unfold sg rg
  have h1 := Nat.div_add_mod w TOP
  have hp : 0 < TOP := by omega
  by_cases c : w < TOP
  · rw [Nat.div_eq_of_lt c, Nat.mod_eq_of_lt c]; rfl
  · have h2 : w / TOP = 1 := by
      apply Nat.div_eq_of_lt_le <;> omega
    rw [h2] at h1 ⊢
    simp only [Nat.one_mod, beq_self_eq_true, if_true]
    omega
/-- What is written of a number. -/
theorem nearest_wd (s : Bool) (m : Nat) {p : Int} (hp : -1074 ≤ p) : Ieee.double.nearest s m p = wd s (m * 2 ^ (p + 1074).toNat) := by
  rw [nearest_eq, rung_flat hp]; rfl
theorem nearest_wd' (s : Bool) {m v k : Nat} {p : Int} (h : m = v * 2 ^ k) (hp : p + k = -1074) : Ieee.double.nearest s m p = wd s v := by
  rw [nearest_eq, h]
  have e := rung_scale k v (p + k)
  rw [show p + (k : Int) - k = p by omega] at e
  rw [e, hp]; rfl
theorem ofInt_wd (n : Int) : floatOfInt .f64 n = wd (decide (n < 0)) (n.natAbs * UN) := by
  have e : floatOfInt .f64 n = Ieee.double.nearest (decide (n < 0)) n.natAbs 0 := rfl
  rw [e, nearest_wd _ _ (by decide), at_zero, UN_eq]
theorem ofInt_exact {n : Int} (h : n.natAbs < 2 ^ 53) : Exact (n.natAbs * UN) := by rw [UN_eq]; exact exact_mk h (by rw [KU_eq]; decide)
theorem ofInt_sv {n : Int} (h : n.natAbs < 2 ^ 53) : sv (floatOfInt .f64 n) = n * (UN : Int) := by
  rw [ofInt_wd, wd_sv (ofInt_exact h)]
  by_cases c : n < 0
  · rw [decide_eq_true c, if_pos rfl]
    push_cast
    rw [← Int.neg_mul]; congr 1; omega
  · rw [decide_eq_false c, if_neg Bool.false_ne_true]
    push_cast
    congr 1; omega
theorem ofInt_fnt {n : Int} (h : n.natAbs < 2 ^ 53) : Fnt (floatOfInt .f64 n) := by rw [ofInt_wd]; exact wd_fnt (ofInt_exact h)
/-- How two finite words stand to each other. -/
theorem ord_fnt {a b : Nat} (ha : Fnt a) (hb : Fnt b) : Ieee.double.order a b = some (compare (sv a) (sv b)) := order_eq (Nat.le_of_lt ha) (Nat.le_of_lt hb)
theorem read_mp {w : Nat} (h : Fnt w) : ∃ m p, Ieee.double.read w = .number (sg w) m p ∧ -1074 ≤ p ∧ val (rg w) = m * 2 ^ (p + 1074).toNat ∧ m < 2 ^ 53 :=
  ⟨mg (rg w), pl (rg w), read_fin h, pl_ge _, mg_val _, by
    have hB : BB = 4503599627370496 := rfl
    unfold mg
    have : rg w % BB < BB := Nat.mod_lt _ (by omega)
    split <;> omega⟩
theorem mul_pow2 {a : Nat} (j : Nat) {m : Nat} (ha : Fnt a) (hm : Fnt m) (hs : sg m = false) (hv : val (rg m) = 2 ^ j * UN) : Ieee.double.mul a m = some (wd (sg a) (val (rg a) * 2 ^ j)) := by
  have h0 : 0 < rg m := by
    rcases Nat.eq_zero_or_pos (rg m) with e | e
    · rw [e, val_zero] at hv
      have := Nat.mul_pos (Nat.two_pow_pos j) UN_pos
      omega
    · exact e
  rw [mul_eq (Nat.le_of_lt ha) hm hs h0]
  have ep : prung (rg a) (rg m) = rung (val (rg a) * val (rg m)) (-2148) := by unfold prung; exact if_pos ha
  unfold wd
  rw [ep, hv]
  congr 2
  have e := rung_scale KU (val (rg a) * 2 ^ j) (-1074)
  rw [← e, Nat.mul_assoc, UN_eq, KU_eq]
  rfl

/-! ### Floors and whole parts -/
/-- A quotient, rounded up. -/
def cdiv (n g : Nat) : Nat := n / g + (if n % g = 0 then 0 else 1)
theorem gap_cut (n d : Nat) : (n / (1 <<< min d (n.log2 + 2)) = n / 2 ^ d) ∧ (n % (1 <<< min d (n.log2 + 2)) = n % 2 ^ d) := by
  rw [Nat.shiftLeft_eq, Nat.one_mul]
  by_cases h : d ≤ n.log2 + 2
  · rw [Nat.min_eq_left h]; exact ⟨rfl, rfl⟩
  · rw [Nat.min_eq_right (by omega)]
    have hn : n < 2 ^ (n.log2 + 1) := Nat.lt_log2_self
    have e1 : 2 ^ (n.log2 + 1) ≤ 2 ^ (n.log2 + 2) := Nat.pow_le_pow_right (by decide) (by omega)
    have e2 : 2 ^ (n.log2 + 1) ≤ 2 ^ d := Nat.pow_le_pow_right (by decide) (by omega)
    have g1 := Nat.lt_of_lt_of_le hn e1
    have g2 := Nat.lt_of_lt_of_le hn e2
    rw [Nat.div_eq_of_lt g1, Nat.div_eq_of_lt g2, Nat.mod_eq_of_lt g1, Nat.mod_eq_of_lt g2]; exact ⟨rfl, rfl⟩
theorem cut_down (s : Bool) (n d : Nat) : Toward.down.cut s n d = if s then cdiv n (2 ^ d) else n / 2 ^ d := by
  obtain ⟨e1, e2⟩ := gap_cut n d
  have e0 : Toward.down.cut s n d = n / (1 <<< min d (n.log2 + 2)) + (s && n % (1 <<< min d (n.log2 + 2)) != 0).toNat := rfl
  rw [e0, e1, e2]
  unfold cdiv
  cases s
  · rfl
  · by_cases c : n % 2 ^ d = 0
    · rw [c]; rfl
    · simp [c]
theorem cut_zero (s : Bool) (n d : Nat) : Toward.zero.cut s n d = n / 2 ^ d := by
  obtain ⟨e1, _⟩ := gap_cut n d
  have e0 : Toward.zero.cut s n d = n / (1 <<< min d (n.log2 + 2)) + (false).toNat := rfl
  rw [e0, e1]
  rfl
theorem place_div (m : Nat) {p : Int} (hp : -1074 ≤ p) : (m <<< p.toNat) / 2 ^ (-p).toNat = m * 2 ^ (p + 1074).toNat / UN ∧ cdiv (m <<< p.toNat) (2 ^ (-p).toNat) = cdiv (m * 2 ^ (p + 1074).toNat) UN := by
  rw [Nat.shiftLeft_eq]
  by_cases h : 0 ≤ p
  · have e1 : (-p).toNat = 0 := by omega
    have e2 : 2 ^ (p + 1074).toNat = 2 ^ p.toNat * UN := by rw [UN_eq, ← Nat.pow_add, KU_eq]; congr 1; omega
    rw [e1, e2, ← Nat.mul_assoc, Nat.pow_zero, Nat.div_one, Nat.mul_div_cancel _ UN_pos]
    unfold cdiv
    rw [Nat.div_one, Nat.mod_one, Nat.mul_div_cancel _ UN_pos, Nat.mul_mod_left]
    exact ⟨rfl, rfl⟩
  · have e1 : p.toNat = 0 := by omega
    have e2 : UN = 2 ^ (-p).toNat * 2 ^ (p + 1074).toNat := (UN_split (by omega)).symm
    have hq := Nat.two_pow_pos (p + 1074).toNat
    rw [e1, e2, Nat.pow_zero, Nat.mul_one]
    generalize 2 ^ (p + 1074).toNat = q at hq
    generalize 2 ^ (-p).toNat = g
    refine ⟨(Nat.mul_div_mul_right _ _ hq).symm, ?_⟩
    unfold cdiv
    rw [Nat.mul_div_mul_right _ _ hq, Nat.mul_mod_mul_right]
    congr 1
    by_cases c : m % g = 0
    · rw [if_pos c, c, Nat.zero_mul, if_pos rfl]
    · rw [if_neg c, if_neg (Nat.mul_ne_zero c (by omega))]
def fl (s : Bool) (v : Nat) : Nat := if s then cdiv v UN else v / UN
theorem floor_wd {x : Nat} (h : Fnt x) : FloatKind.f64.encode ((FloatKind.f64.decode x).integral .down) = wd (sg x) (fl (sg x) (val (rg x)) * UN) := by
  obtain ⟨m, p, hr, hp, hv, _⟩ := read_mp h
  show Ieee.double.write ((Ieee.double.read x).integral .down) = _
  rw [hr]
  show Ieee.double.nearest (sg x) (Toward.down.cut (sg x) (m <<< p.toNat) (-p).toNat) 0 = _
  obtain ⟨d1, d2⟩ := place_div m hp
  rw [nearest_wd _ _ (by decide), cut_down, d1, d2, ← hv, at_zero, ← UN_eq]
  rfl
theorem cdiv_int (v : Nat) : -((cdiv v UN : Nat) : Int) = -(v : Int) / (UN : Int) := by
  have hp := UN_pos
  unfold cdiv
  generalize UN = g at hp
  have h1 := Nat.div_add_mod v g
  have h2 := Nat.mod_lt v hp
  generalize v / g = q at h1
  generalize v % g = r at h1 h2
  by_cases c : r = 0
  · rw [if_pos c]
    subst c
    rw [← h1]
    push_cast
    rw [Int.add_zero, Int.add_zero, ← Int.mul_neg, Int.mul_ediv_cancel_left _ (by omega)]
  · rw [if_neg c]
    symm
    have e : -(v : Int) = ((g - r : Nat) : Int) + (g : Int) * (-((q + 1 : Nat) : Int)) := by
      rw [← h1]
      have : ((g - r : Nat) : Int) = (g : Int) - r := by omega
      rw [this]
      push_cast
      rw [Int.mul_neg, Int.mul_add]
      omega
    rw [e, Int.add_mul_ediv_left _ _ (by omega), Int.ediv_eq_zero_of_lt (by omega) (by omega)]; omega
/-- A double's floor, as an integer. -/
def flr (x : Nat) : Int := sv x / (UN : Int)
theorem fl_flr (x : Nat) : flr x = if sg x then -(fl (sg x) (val (rg x)) : Int) else (fl (sg x) (val (rg x)) : Int) := by
  unfold flr fl sv
  cases sg x
  · simp only [Bool.false_eq_true, if_false]; rfl
  · simp only [if_true]; exact (cdiv_int _).symm
theorem fl_abs (x : Nat) : (flr x).natAbs = fl (sg x) (val (rg x)) := by
  rw [fl_flr]; split <;> omega
theorem floor_word {x : Nat} (h : Fnt x) : FloatKind.f64.encode ((FloatKind.f64.decode x).integral .down) = wd (sg x) ((flr x).natAbs * UN) := by rw [floor_wd h, fl_abs]
theorem exact_UN {n : Nat} (h : n < 2 ^ 53) : Exact (n * UN) := by rw [UN_eq]; exact exact_mk h (by rw [KU_eq]; decide)
theorem sv_nonneg {x : Nat} (h : sg x = false) : 0 ≤ sv x := by unfold sv; rw [h, if_neg Bool.false_ne_true]; omega
theorem sv_neg {x : Nat} (h : sg x = true) : sv x ≤ 0 := by unfold sv; rw [h, if_pos rfl]; omega
theorem flr_sign {x : Nat} (h : flr x ≠ 0) : sg x = decide (flr x < 0) := by
  have hp := UN_pos
  cases hs : sg x
  · have : 0 ≤ flr x := Int.ediv_nonneg (sv_nonneg hs) (by omega)
    rw [decide_eq_false (by omega)]
  · have := fl_flr x
    rw [hs, if_pos rfl] at this
    rw [decide_eq_true (by omega)]
theorem trunc_int {x : Nat} (h : Fnt x) : (FloatKind.f64.decode x).toInt .zero = some ((sv x).tdiv (UN : Int)) := by
  obtain ⟨m, p, hr, hp, hv, _⟩ := read_mp h
  show (Ieee.double.read x).toInt .zero = _
  rw [hr]
  show some (signed (sg x) (Toward.zero.cut (sg x) (m <<< p.toNat) (-p).toNat) 0) = _
  obtain ⟨d1, _⟩ := place_div m hp
  rw [cut_zero, d1, ← hv, signed_eq]
  unfold sv
  cases sg x
  · simp only [Bool.false_eq_true, if_false, Nat.pow_zero, Nat.mul_one]; rfl
  · simp only [if_true, Nat.pow_zero, Nat.mul_one, Int.neg_tdiv]; rfl
theorem trunc_val {x : Nat} (h : Fnt x) (h1 : -9223372036854775808 ≤ (sv x).tdiv (UN : Int)) (h2 : (sv x).tdiv (UN : Int) ≤ 9223372036854775807) : floatToIntVal .f64 x .i64 = some ((sv x).tdiv (UN : Int)) := by
  unfold floatToIntVal
  rw [trunc_int h]
  dsimp only
  rw [if_pos ⟨h1, h2⟩]

/-! ### Quotients by powers of two, sums -/
theorem div_pow2 {a m : Nat} (j : Nat) (ha : Fnt a) (hr : Ieee.double.read m = .number false (2 ^ 52) ((j : Int) - 52)) (hj : j ≤ 900) (hU : val (rg a) = 0 ∨ UN ≤ val (rg a)) : Ieee.double.div a m = some (wd (sg a) (val (rg a) / 2 ^ j)) := by
  obtain ⟨n, i, hra, hp, hv, hn⟩ := read_mp ha
  unfold Format.div
  rw [hra, hr]
  have hlog : n.log2 ≤ 52 := by
    by_cases c : n = 0
    · subst c; decide
    · have := log_lt c hn; omega
  obtain ⟨more, hmore⟩ : ∃ more, Ieee.double.fractionBits + 2 + (2 ^ 52 : Nat).log2 - n.log2 = more := ⟨_, rfl⟩
  have hm52 : (2 ^ 52 : Nat).log2 = 52 := Nat.log2_two_pow
  have hff : Ieee.double.fractionBits = 52 := rfl
  have hge : 54 ≤ more := by rw [← hmore, hm52, hff]; omega
  have eq : (Datum.number (sg a) n i).quotient (Ieee.double.fractionBits + 2) (Datum.number false (2 ^ 52) ((j : Int) - 52)) = some (.number (sg a ^^ false) (2 * ((n <<< more) / 2 ^ 52) + ((n <<< more) % 2 ^ 52 != 0).toNat) (i - ((j : Int) - 52) - more - 1)) := by
    rw [← hmore]; rfl
  rw [eq]
  obtain ⟨c, hc⟩ : ∃ c, more = c + 52 := ⟨more - 52, by omega⟩
  have e1 : n <<< more = n * 2 ^ c * 2 ^ 52 := by rw [Nat.shiftLeft_eq, hc, Nat.pow_add, Nat.mul_assoc]
  rw [e1, Nat.mul_div_cancel _ (Nat.two_pow_pos 52), Nat.mul_mod_left]
  show some (Ieee.double.nearest (sg a ^^ false) (2 * (n * 2 ^ c) + 0) (i - ((j : Int) - 52) - more - 1)) = _
  rw [Bool.xor_false, Nat.add_zero]
  congr 1
  have e2 : 2 * (n * 2 ^ c) = n * 2 ^ (c + 1) := by rw [Nat.pow_succ, Nat.mul_comm (2 ^ c) 2, Nat.mul_left_comm]
  rw [e2, nearest_eq]
  have e3 := rung_scale (c + 1) n (i - j)
  rw [show i - ((j : Int) - 52) - more - 1 = i - j - ((c + 1 : Nat) : Int) by omega, e3]
  unfold wd
  by_cases c0 : n = 0
  · subst c0
    rw [Nat.zero_mul] at hv
    rw [hv, Nat.zero_div, rung_zero, rung_zero]
  · have hUN : UN ≤ val (rg a) := by
      rcases hU with h | h
      · exfalso
        rw [hv] at h
        have := Nat.mul_pos (Nat.pos_of_ne_zero c0) (Nat.two_pow_pos (i + 1074).toNat)
        omega
      · exact h
    have hi : -53 ≤ i := by
      rcases Int.lt_or_le i (-53) with h | h
      · exfalso
        have h3 : n * 2 ^ (i + 1074).toNat < 2 ^ 53 * 2 ^ (i + 1074).toNat := Nat.mul_lt_mul_of_pos_right hn (Nat.two_pow_pos _)
        rw [← hv, ← Nat.pow_add] at h3
        have h4 : 2 ^ (53 + (i + 1074).toNat) ≤ UN := by rw [UN_eq]; exact Nat.pow_le_pow_right (by decide) (by rw [KU_eq]; omega)
        omega
      · exact h
    rw [rung_flat (by omega), hv]
    congr 2
    have e4 : 2 ^ (i + 1074).toNat = 2 ^ (i - j + 1074).toNat * 2 ^ j := by rw [← Nat.pow_add]; congr 1; omega
    rw [e4, ← Nat.mul_assoc, Nat.mul_div_cancel _ (Nat.two_pow_pos j)]
theorem scaled (s : Bool) {m : Nat} {p b : Int} (h1 : -1074 ≤ b) (h2 : b ≤ p) : signed s m (p - b).toNat * ((2 ^ (b + 1074).toNat : Nat) : Int) = if s then -((m * 2 ^ (p + 1074).toNat : Nat) : Int) else ((m * 2 ^ (p + 1074).toNat : Nat) : Int) := by
  have e : m * 2 ^ (p - b).toNat * 2 ^ (b + 1074).toNat = m * 2 ^ (p + 1074).toNat := by
    rw [Nat.mul_assoc, ← Nat.pow_add]; congr 2; omega
  rw [signed_eq, ← e]
  cases s
  · simp only [Bool.false_eq_true, if_false]; exact (Int.natCast_mul _ _).symm
  · simp only [if_true]; rw [Int.neg_mul]; congr 1
theorem write_total {t v : Int} {b : Int} {K : Nat} (hb : -1074 ≤ b) (hK : K = (b + 1074).toNat) (h : t * ((2 ^ K : Nat) : Int) = v) (z : Bool) :
    Ieee.double.write (.number (if t = 0 then z else decide (t < 0)) t.natAbs b) = wd (if v = 0 then z else decide (v < 0)) v.natAbs := by
  show Ieee.double.nearest _ _ _ = _
  rw [nearest_wd _ _ hb, ← hK, ← h, Int.natAbs_mul, Int.natAbs_natCast]
  have hp : (0 : Int) < ((2 ^ K : Nat) : Int) := by have := Nat.two_pow_pos K; omega
  congr 1
  by_cases c : t = 0
  · subst c; rw [Int.zero_mul]
  · rw [if_neg c, if_neg (Int.mul_ne_zero c (by omega))]
    congr 1
    exact propext ⟨fun h => Int.mul_neg_of_neg_of_pos h hp, fun h => by
      rcases Int.lt_or_le t 0 with h2 | h2
      · exact h2
      · have := Int.mul_nonneg h2 (Int.le_of_lt hp); omega⟩
theorem add_fnt {a b : Nat} (ha : Fnt a) (hb : Fnt b) : Ieee.double.add a b = some (wd (if sv a + sv b = 0 then sg a && sg b else decide (sv a + sv b < 0)) (sv a + sv b).natAbs) := by
  obtain ⟨m, i, hra, hi, hva, _⟩ := read_mp ha
  obtain ⟨n, j, hrb, hj, hvb, _⟩ := read_mp hb
  unfold Format.add
  rw [hra, hrb]
  show some (Ieee.double.write (.number (if signed (sg a) m (i - min i j).toNat + signed (sg b) n (j - min i j).toNat = 0 then sg a && sg b else decide (signed (sg a) m (i - min i j).toNat + signed (sg b) n (j - min i j).toNat < 0)) (signed (sg a) m (i - min i j).toNat + signed (sg b) n (j - min i j).toNat).natAbs (min i j))) = _
  rw [write_total (K := (min i j + 1074).toNat) (v := sv a + sv b) (by omega) rfl]
  rw [Int.add_mul, scaled _ (by omega) (by omega), scaled _ (by omega) (by omega), ← hva, ← hvb]
  rfl
theorem sub_fnt {a b : Nat} (ha : Fnt a) (hb : Fnt b) : Ieee.double.sub a b = some (wd (if sv a - sv b = 0 then sg a && !sg b else decide (sv a - sv b < 0)) (sv a - sv b).natAbs) := by
  obtain ⟨m, i, hra, hi, hva, _⟩ := read_mp ha
  obtain ⟨n, j, hrb, hj, hvb, _⟩ := read_mp hb
  unfold Format.sub
  rw [hra, hrb]
  show some (Ieee.double.write (.number (if signed (sg a) m (i - min i j).toNat + signed (!sg b) n (j - min i j).toNat = 0 then sg a && !sg b else decide (signed (sg a) m (i - min i j).toNat + signed (!sg b) n (j - min i j).toNat < 0)) (signed (sg a) m (i - min i j).toNat + signed (!sg b) n (j - min i j).toNat).natAbs (min i j))) = _
  rw [write_total (K := (min i j + 1074).toNat) (v := sv a - sv b) (by omega) rfl]
  rw [Int.add_mul, scaled _ (by omega) (by omega), scaled _ (by omega) (by omega), ← hva, ← hvb]
  unfold sv
  cases sg a <;> cases sg b <;> simp only [Bool.not_true, Bool.not_false, if_true, if_false, Bool.false_eq_true] <;> omega
end Go.Proofs.YtdkfemmjoabbcaaDoor.Aid
