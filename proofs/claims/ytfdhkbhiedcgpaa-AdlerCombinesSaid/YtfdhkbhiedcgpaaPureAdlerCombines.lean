/- The Adler sum of two texts is put together out of theirs; of no bytes, or of fewer than none, it is the first one's: for any two texts of at most 300 bytes, the second one repeated up to 32 times. -/
import Derived.Test.YtfdhkbhiedcgpaaWalkAdlerCombines
import Derived.Test.YtfdhkbhiedcgpaaAid
namespace Go.Proofs.Ytfdhkbhiedcgpaa.Pure
open Go.RowKit Go.Proofs.Ytfdhkbhiedcgpaa.PAdlerCombines Go.Proofs.YtfdhkbhiedcgpaaW.PrintWords Go.Proofs.YtfdhkbhiedcgpaaW.PrintLast

/-! ### What adler.Update comes to: a fold over the bytes -/
def Bytes (l : List Int) : Prop := ∀ c ∈ l, 0 ≤ c ∧ c < 256
theorem Bytes.tail {c : Int} {r : List Int} (h : Bytes (c :: r)) : Bytes r := fun x hx => h x (List.mem_cons_of_mem _ hx)
theorem Bytes.head {c : Int} {r : List Int} (h : Bytes (c :: r)) : 0 ≤ c ∧ c < 256 := h c (List.mem_cons_self ..)
theorem Bytes.append {a b : List Int} (ha : Bytes a) (hb : Bytes b) : Bytes (a ++ b) := fun x hx => by
  rcases List.mem_append.1 hx with h | h
  · exact ha x h
  · exact hb x h

def st (x y : Int) : List Int → Int × Int
  | [] => (x, y)
  | c :: r => st ((x + c) % 65521) ((y + (x + c) % 65521) % 65521) r
def pack (p : Int × Int) : Int := p.2 * 65536 + p.1
def lo (a : Int) : Int := a % 65536 % 65521
def hi (a : Int) : Int := a / 65536 % 65521
def upd (a : Int) (l : List Int) : Int := pack (st (lo a) (hi a) l)

theorem st_append (a b : List Int) : ∀ x y, st x y (a ++ b) = st (st x y a).1 (st x y a).2 b := by
  induction a with
  | nil => intro x y; rfl
  | cons c r ih => intro x y; simp only [List.cons_append, st]; exact ih _ _
theorem st_b (l : List Int) : ∀ x y, 0 ≤ x → x < 65521 → 0 ≤ y → y < 65521 → 0 ≤ (st x y l).1 ∧ (st x y l).1 < 65521 ∧ 0 ≤ (st x y l).2 ∧ (st x y l).2 < 65521 := by
  induction l with
  | nil => intro x y a b c d; exact ⟨a, b, c, d⟩
  | cons c r ih => intro x y _ _ _ _; simp only [st]; exact ih _ _ (by omega) (by omega) (by omega) (by omega)
theorem pack_lo {p : Int × Int} (h : 0 ≤ p.1 ∧ p.1 < 65521 ∧ 0 ≤ p.2 ∧ p.2 < 65521) : lo (pack p) = p.1 := by unfold lo pack; omega
theorem pack_hi {p : Int × Int} (h : 0 ≤ p.1 ∧ p.1 < 65521 ∧ 0 ≤ p.2 ∧ p.2 < 65521) : hi (pack p) = p.2 := by unfold hi pack; omega
theorem lohi_b (a : Int) : 0 ≤ lo a ∧ lo a < 65521 ∧ 0 ≤ hi a ∧ hi a < 65521 := by unfold lo hi; omega
theorem st_ok (a : Int) (l : List Int) : 0 ≤ (st (lo a) (hi a) l).1 ∧ (st (lo a) (hi a) l).1 < 65521 ∧ 0 ≤ (st (lo a) (hi a) l).2 ∧ (st (lo a) (hi a) l).2 < 65521 := by
  obtain ⟨a1, a2, a3, a4⟩ := lohi_b a
  exact st_b l _ _ a1 a2 a3 a4
theorem upd_append (a : Int) (l m : List Int) : upd a (l ++ m) = upd (upd a l) m := by
  unfold upd
  rw [st_append, pack_lo (st_ok a l), pack_hi (st_ok a l)]
theorem upd_b (a : Int) (l : List Int) : 0 ≤ upd a l ∧ upd a l < 4294967296 := by
  have := st_ok a l
  unfold upd pack; omega

theorem pack_or {x y : Int} (h0 : 0 ≤ x) (h1 : x < 65521) (h2 : 0 ≤ y) (h3 : y < 65521) : Go.bits .or .u32 ((y * 65536) % 4294967296) x = pack (x, y) := by
  have e : (y * 65536) % 4294967296 = y * 65536 := by omega
  rw [e, Aid.or_u32_16 (by omega) (by omega) (by omega) h0 (by omega)]
  rfl

theorem update_l0 (r : List Int) : ∀ (p : List Int) (x y : Int), Bytes r → 0 ≤ x → x < 65521 → 0 ≤ y → y < 65521 → p.length + r.length ≤ 140737488355328 →
    Ev (fun k => adler_Update.l0 k (p ++ r) x y ((p ++ r).length : Int) (p.length : Int)) (pack (st x y r)) := by
  induction r with
  | nil =>
    intro p x y _ h0 h1 h2 h3 _
    refine Ev.step (f := fun _ => some (pack (x, y))) (fun k => ?_) (Ev.now _)
    simp only [adler_Update.l0]
    rw [if_neg (by simp), pack_or h0 h1 h2 h3]
  | cons c r ih =>
    intro p x y hb h0 h1 h2 h3 hl
    have hc := hb.head
    simp only [List.length_cons] at hl
    have h := ih (p ++ [c]) ((x + c) % 65521) ((y + (x + c) % 65521) % 65521) hb.tail (by omega) (by omega) (by omega) (by omega) (by simp; omega)
    refine Ev.step (fun k => ?_) h
    simp only [adler_Update.l0]
    rw [if_pos (by simp; omega), if_pos (by omega), if_pos (by simp; omega), Aid.rd_at, Aid.wrap64_in (by omega) (by omega)]
    have e1 : c % 4294967296 = c := by omega
    have e2 : (x + c) % 4294967296 = x + c := by omega
    have e3 : (y + (x + c) % 65521) % 4294967296 = y + (x + c) % 65521 := by omega
    rw [e1, e2, e3]
    simp
theorem update_f (a : Int) (l : List Int) (ha : 0 ≤ a) (hb : Bytes l) (hl : l.length ≤ 140737488355328) : ∃ K, ∀ k, K ≤ k → adler_Update.f k a l = some (upd a l) := by
  obtain ⟨a1, a2, a3, a4⟩ := lohi_b a
  have h := update_l0 l [] (lo a) (hi a) hb a1 a2 a3 a4 (by simpa using hl)
  refine Ev.congr (g := fun k => adler_Update.f k a l) (fun k => ?_) h
  unfold adler_Update.f
  rw [Aid.andFFFF_u32, Aid.tmod_pos (by omega), Aid.tmod_pos (by omega)]
  rfl
theorem sum_f (l : List Int) (hb : Bytes l) (hl : l.length ≤ 140737488355328) : ∃ K, ∀ k, K ≤ k → adler_Sum.f k l = some (upd 1 l) := by
  refine Ev.congr (g := fun k => adler_Sum.f k l) (f := fun k => adler_Update.f k 1 l) (fun k => ?_) (update_f 1 l (by decide) hb hl)
  unfold adler_Sum.f
  simp
theorem bytes_nil : Bytes [] := fun _ h => by cases h
theorem told_f : ∃ K, ∀ k, K ≤ k → stevedorelaw2_told.f k = some true := by
  obtain ⟨K1, h1⟩ := sum_f [87, 105, 107, 105, 112, 101, 100, 105, 97] (by unfold Bytes; decide) (by decide)
  obtain ⟨K2, h2⟩ := sum_f [] bytes_nil (by decide)
  refine ⟨K1 + K2, fun k hk => ?_⟩
  unfold stevedorelaw2_told.f
  rw [h1 k (by omega), h2 k (by omega)]
  decide
theorem bytes_of {l : List Int} (h : ∀ x ∈ l, (Lit.int .u8 x).wf = true) : Bytes l := fun x hx => Aid.u8_b (h x hx)
/-! ### The fold in closed form -/
def sm : List Int → Int
  | [] => 0
  | c :: r => c + sm r
def wt : List Int → Int
  | [] => 0
  | c :: r => ((r.length : Int) + 1) * c + wt r
theorem sm_append (a b : List Int) : sm (a ++ b) = sm a + sm b := by
  induction a with
  | nil => simp [sm]
  | cons c r ih => simp only [List.cons_append, sm, ih]; omega
theorem st_eq (l : List Int) : ∀ x y, 0 ≤ x → x < 65521 → 0 ≤ y → y < 65521 → st x y l = ((x + sm l) % 65521, (y + l.length * x + wt l) % 65521) := by
  induction l with
  | nil => intro x y _ _ _ _; simp only [st, sm, wt, List.length_nil]; rw [Int.emod_eq_of_lt (by omega) (by omega), Int.emod_eq_of_lt (by simp; omega) (by simp; omega)]; simp
  | cons c r ih =>
    intro x y _ _ _ _
    simp only [st, sm, wt, List.length_cons]
    rw [ih _ _ (by omega) (by omega) (by omega) (by omega)]
    have e : (x + c) % 65521 = x + c - 65521 * ((x + c) / 65521) := Int.emod_def _ _
    have f : (y + (x + c) % 65521) % 65521 = y + (x + c) % 65521 - 65521 * ((y + (x + c) % 65521) / 65521) := Int.emod_def _ _
    congr 1
    · omega
    · rw [f]
      generalize (y + (x + c) % 65521) / 65521 = q
      rw [e]
      generalize (x + c) / 65521 = p
      have g : y + (x + c - 65521 * p) - 65521 * q + (r.length : Int) * (x + c - 65521 * p) + wt r
          = (y + ((r.length : Int) + 1) * x + (((r.length : Int) + 1) * c + wt r)) + 65521 * (- p - q - r.length * p) := by
        simp only [Int.mul_sub, Int.mul_add, Int.add_mul, Int.mul_neg, Int.one_mul]
        have : (r.length : Int) * (65521 * p) = 65521 * (r.length * p) := by rw [Int.mul_left_comm]
        omega
      rw [g, Int.add_mul_emod_self_left]
      simp

def comb (a b n : Int) : Int := pack ((((lo a + 65521 - 1) % 65521 + lo b) % 65521), ((hi a + hi b + n % 65521 * ((lo a + 65521 - 1) % 65521)) % 65521))
theorem combine_neg (a b n : Int) (h : n < 0) : adler_Combine.f a b n = some a := by unfold adler_Combine.f; rw [if_pos h]
theorem combine_f (a b n : Int) (ha : 0 ≤ a ∧ a < 4294967296) (hb : 0 ≤ b ∧ b < 4294967296) (h : 0 ≤ n) (hn : n < 9223372036854775808) : adler_Combine.f a b n = some (comb a b n) := by
  unfold adler_Combine.f
  rw [if_neg (by omega), Aid.andFFFF_u32, Aid.andFFFF_u32]
  have A := lohi_b a
  have B := lohi_b b
  have e1 : Int.tmod (IntKind.u64.wrap (a / 65536)) 65521 = hi a := by rw [Aid.u64_in (by omega) (by omega), Aid.tmod_pos (by omega)]; rfl
  have e2 : Int.tmod (IntKind.u64.wrap (b / 65536)) 65521 = hi b := by rw [Aid.u64_in (by omega) (by omega), Aid.tmod_pos (by omega)]; rfl
  have e3 : Int.tmod (IntKind.u64.wrap (a % 65536)) 65521 = lo a := by rw [Aid.u64_in (by omega) (by omega), Aid.tmod_pos (by omega)]; rfl
  have e4 : Int.tmod (IntKind.u64.wrap (b % 65536)) 65521 = lo b := by rw [Aid.u64_in (by omega) (by omega), Aid.tmod_pos (by omega)]; rfl
  have e5 : Int.tmod (IntKind.u64.wrap n) 65521 = n % 65521 := by rw [Aid.u64_in (by omega) (by omega), Aid.tmod_pos (by omega)]
  rw [e1, e2, e3, e4, e5]
  have e6 : Int.tmod (IntKind.u64.wrap (IntKind.u64.wrap (lo a + 65521) - 1)) 65521 = (lo a + 65521 - 1) % 65521 := by
    rw [Aid.u64_in (x := lo a + 65521) (by omega) (by omega), Aid.u64_in (by omega) (by omega), Aid.tmod_pos (by omega)]
  rw [e6]
  unfold comb
  generalize (lo a + 65521 - 1) % 65521 = m at e6 ⊢
  by_cases hm : 0 ≤ m ∧ m < 65521
  · have hq : 0 ≤ n % 65521 ∧ n % 65521 < 65521 := by omega
    generalize n % 65521 = q at hq ⊢
    have h1 : 0 ≤ q * m := Int.mul_nonneg hq.1 hm.1
    have h2 : q * m ≤ 65521 * 65521 := by
      have := Int.mul_le_mul (a := q) (b := m) (c := 65521) (d := 65521) (by omega) (by omega) (by omega) (by omega)
      omega
    rw [Aid.u64_in (x := q * m) (by omega) (by omega), Aid.u64_in (x := hi a + hi b) (by omega) (by omega), Aid.u64_in (x := hi a + hi b + q * m) (by omega) (by omega), Aid.u64_in (x := m + lo b) (by omega) (by omega), Aid.tmod_pos (by omega), Aid.tmod_pos (by omega)]
    generalize hi a + hi b + q * m = y
    generalize m + lo b = x
    have f1 : x % 65521 % 4294967296 = x % 65521 := by omega
    have f2 : y % 65521 % 4294967296 = y % 65521 := by omega
    rw [f1, f2, pack_or (by omega) (by omega) (by omega) (by omega)]
  · exfalso
    have := Int.emod_nonneg (lo a + 65521 - 1) (b := 65521) (by decide)
    have := Int.emod_lt_of_pos (lo a + 65521 - 1) (b := 65521) (by decide)
    have e7 : Int.tmod (IntKind.u64.wrap (IntKind.u64.wrap (lo a + 65521) - 1)) 65521 = (lo a + 65521 - 1) % 65521 := by
      rw [Aid.u64_in (x := lo a + 65521) (by omega) (by omega), Aid.u64_in (by omega) (by omega), Aid.tmod_pos (by omega)]
    omega
theorem comb_upd (a : Int) (l : List Int) : comb (upd a []) (upd 1 l) l.length = upd a l ∧ comb (upd a l) 1 0 = upd a l := by
  have A := lohi_b a
  have S1 := st_ok a []
  have S2 := st_ok 1 l
  have S3 := st_ok a l
  constructor
  · unfold comb
    unfold upd
    rw [pack_lo S1, pack_hi S1, pack_lo S2, pack_hi S2]
    simp only [st]
    rw [st_eq l _ _ (by decide) (by decide) (by decide) (by decide), st_eq l _ _ A.1 A.2.1 A.2.2.1 A.2.2.2]
    generalize lo a = x at A
    generalize hi a = y at A
    have e : lo 1 = 1 := by decide
    have f : hi 1 = 0 := by decide
    rw [e, f]
    generalize (l.length : Int) = n
    generalize sm l = s
    generalize wt l = w
    have g1 : ((x + 65521 - 1) % 65521 + (1 + s) % 65521) % 65521 = (x + s) % 65521 := by omega
    have g2 : (y + (0 + n * 1 + w) % 65521 + n % 65521 * ((x + 65521 - 1) % 65521)) % 65521 = (y + n * x + w) % 65521 := by
      have h1 : (n % 65521 * ((x + 65521 - 1) % 65521)) % 65521 = (n * (x + 65521 - 1)) % 65521 := by rw [← Int.mul_emod]
      have h2 : n * (x + 65521 - 1) = n * x + 65521 * n - n := by
        rw [Int.mul_sub, Int.mul_add, Int.mul_comm n 65521, Int.mul_one]
      rw [h2] at h1
      generalize n % 65521 * ((x + 65521 - 1) % 65521) = z at h1 ⊢
      generalize n * x = nx at h1 ⊢
      omega
    rw [g1, g2]
  · unfold comb
    have h := pack_lo S3
    have h' := pack_hi S3
    unfold upd
    rw [h, h']
    have e : lo 1 = 1 := by decide
    have f : hi 1 = 0 := by decide
    rw [e, f]
    generalize st (lo a) (hi a) l = p at S3
    have g1 : ((p.1 + 65521 - 1) % 65521 + 1) % 65521 = p.1 := by omega
    have g2 : (p.2 + 0 + 0 % 65521 * ((p.1 + 65521 - 1) % 65521)) % 65521 = p.2 := by simp; omega
    rw [g1, g2]

theorem comb_two (l m : List Int) : comb (upd 1 l) (upd 1 m) m.length = upd 1 (l ++ m) := by
  rw [upd_append]
  have := (comb_upd (upd 1 l) m).1
  have e : upd (upd 1 l) [] = upd 1 l := by
    have S := st_ok 1 l
    show pack (lo (pack _), hi (pack _)) = pack _
    rw [pack_lo S, pack_hi S]
  rwa [e] at this

theorem combine_none (a : Int) (ha : 0 ≤ a ∧ a < 4294967296) (h : comb a 1 0 = a) : adler_Combine.f a 1 0 = some a := by
  have c := combine_f a 1 0 ha ⟨by omega, by omega⟩ (by omega) (by omega)
  rwa [h] at c
theorem law_l0 (l0 l1 : List Int) (a2 : Int) (hl0 : l0.length ≤ 300) (hl1 : l1.length ≤ 300) (hb0 : Bytes l0) (hb1 : Bytes l1) (d : Nat) : ∀ (i : Int) (acc : List Int), 0 ≤ i → i + d = 1 + a2 % 32 → Bytes acc → acc.length ≤ i.toNat * 300 →
    ∃ K, ∀ k, K ≤ k → stevedorelaw2_AdlerCombines.l0 k l0 l1 a2 acc i = some true := by
  induction d with
  | zero =>
    intro i acc h0 hi hacc hal
    obtain ⟨K0, h0'⟩ := told_f
    obtain ⟨K1, h1⟩ := sum_f l0 hb0 (by omega)
    obtain ⟨K2, h2⟩ := sum_f acc hacc (by omega)
    obtain ⟨K3, h3⟩ := sum_f (l0 ++ acc) (hb0.append hacc) (by simp; omega)
    have c1 := combine_f (upd 1 l0) (upd 1 acc) acc.length (upd_b _ _) (upd_b _ _) (by omega) (by omega)
    rw [comb_two] at c1
    have c2 := combine_none (upd 1 l0) (upd_b _ _) (comb_upd 1 l0).2
    have c3 := combine_neg (upd 1 l0) (upd 1 acc) (-1) (by decide)
    refine ⟨K0 + K1 + K2 + K3 + 1, fun k hk => ?_⟩
    obtain ⟨k, rfl⟩ : ∃ m, k = m + 1 := ⟨k - 1, by omega⟩
    simp only [stevedorelaw2_AdlerCombines.l0]
    rw [Aid.and31_i64, Aid.wrap64_in (by omega) (by omega), if_neg (by omega), h1 k (by omega), h0' k (by omega)]
    rw [Option.bind_some, Option.bind_some, if_pos rfl, h2 k (by omega), Option.bind_some, c1, Option.bind_some, Option.bind_some, if_pos (by simp; omega), Option.bind_some, if_pos (by simp; omega), List.nil_append, h3 k (by omega)]
    simp only [Option.bind_some, if_true]
    rw [c2]
    simp only [Option.bind_some, if_true]
    rw [c3]
    simp
  | succ d ih =>
    intro i acc h0 hi hacc hal
    obtain ⟨K, h⟩ := ih (i + 1) (acc ++ l1) (by omega) (by omega) (hacc.append hb1) (by simp; omega)
    refine ⟨K + 1, fun k hk => ?_⟩
    obtain ⟨k, rfl⟩ : ∃ m, k = m + 1 := ⟨k - 1, by omega⟩
    simp only [stevedorelaw2_AdlerCombines.l0]
    rw [Aid.and31_i64, Aid.wrap64_in (x := 1 + a2 % 32) (by omega) (by omega), if_pos (by omega), if_pos (by omega), Aid.wrap64_in (by omega) (by omega)]
    exact h k (by omega)

theorem AdlerCombines : stevedorelaw2_AdlerCombines.Pure := by
  intro l0 l1 a2 _ hl0 hb0 _ hl1 hb1 _
  have hb0 := bytes_of hb0
  have hb1 := bytes_of hb1
  obtain ⟨K0, h0⟩ := told_f
  have hj : ∀ b, (b = true ∨ (l0.length ≤ 300 ∧ l1.length ≤ 300)) → ∃ K, ∀ k, K ≤ k → stevedorelaw2_AdlerCombines.j0 k l0 l1 a2 b = some true := by
    intro b hc
    by_cases e : b = true
    · refine ⟨K0 + 1, fun k hk => ?_⟩
      obtain ⟨k, rfl⟩ : ∃ m, k = m + 1 := ⟨k - 1, by omega⟩
      simp only [stevedorelaw2_AdlerCombines.j0]
      rw [if_pos e, h0 k (by omega)]
      rfl
    · have hl : l0.length ≤ 300 ∧ l1.length ≤ 300 := by rcases hc with hc | hc; exact absurd hc e; exact hc
      obtain ⟨K, h⟩ := law_l0 l0 l1 a2 hl.1 hl.2 hb0 hb1 (1 + a2 % 32).toNat 0 [] (by omega) (by omega) bytes_nil (by simp)
      refine ⟨K + 1, fun k hk => ?_⟩
      obtain ⟨k, rfl⟩ : ∃ m, k = m + 1 := ⟨k - 1, by omega⟩
      simp only [stevedorelaw2_AdlerCombines.j0]
      rw [if_neg e]
      exact h k (by omega)
  unfold stevedorelaw2_AdlerCombines.f
  by_cases c1 : (l0.length : Int) > 300
  · simp only [if_pos c1]; exact Aid.once (hj _ (Or.inl rfl))
  · simp only [if_neg c1]
    by_cases c2 : (l1.length : Int) > 300
    · exact Aid.once (hj _ (Or.inl (by simpa using c2)))
    · exact Aid.once (hj _ (Or.inr ⟨by omega, by omega⟩))

end Go.Proofs.Ytfdhkbhiedcgpaa.Pure
