/- One byte of a text that is turned always turns its Adler sum: for any text of 1 to 500 bytes, any place, any other byte. -/
import Derived.Test.YtfdhkbhiedcgpaaWalkAdlerOne
import Derived.Test.YtfdhkbhiedcgpaaAid
namespace Go.Proofs.Ytfdhkbhiedcgpaa.Pure
open Go.RowKit Go.Proofs.Ytfdhkbhiedcgpaa.PAdlerOne Go.Proofs.YtfdhkbhiedcgpaaW.PrintWords Go.Proofs.YtfdhkbhiedcgpaaW.PrintLast

/-! ### What adler.Update comes to: a fold over the bytes -/
def Bytes (l : List Int) : Prop := ∀ c ∈ l, 0 ≤ c ∧ c < 256
theorem Bytes.tail {c : Int} {r : List Int} (h : Bytes (c :: r)) : Bytes r := fun x hx => h x (List.mem_cons_of_mem _ hx)
theorem Bytes.head {c : Int} {r : List Int} (h : Bytes (c :: r)) : 0 ≤ c ∧ c < 256 := h c (List.mem_cons_self ..)
theorem Bytes.append {a b : List Int} (ha : Bytes a) (hb : Bytes b) : Bytes (a ++ b) := fun x hx => by
  rcases List.mem_append.1 hx with h | h
  · exact ha x h
  · exact hb x h

def st (x y : Int) : List Int → Int × Int
  | [] => (x, y)
  | c :: r => st ((x + c) % 65521) ((y + (x + c) % 65521) % 65521) r
def pack (p : Int × Int) : Int := p.2 * 65536 + p.1
def lo (a : Int) : Int := a % 65536 % 65521
def hi (a : Int) : Int := a / 65536 % 65521
def upd (a : Int) (l : List Int) : Int := pack (st (lo a) (hi a) l)

theorem st_append (a b : List Int) : ∀ x y, st x y (a ++ b) = st (st x y a).1 (st x y a).2 b := by
  induction a with
  | nil => intro x y; rfl
  | cons c r ih => intro x y; simp only [List.cons_append, st]; exact ih _ _
theorem st_b (l : List Int) : ∀ x y, 0 ≤ x → x < 65521 → 0 ≤ y → y < 65521 → 0 ≤ (st x y l).1 ∧ (st x y l).1 < 65521 ∧ 0 ≤ (st x y l).2 ∧ (st x y l).2 < 65521 := by
  induction l with
  | nil => intro x y a b c d; exact ⟨a, b, c, d⟩
  | cons c r ih => intro x y _ _ _ _; simp only [st]; exact ih _ _ (by omega) (by omega) (by omega) (by omega)
theorem pack_lo {p : Int × Int} (h : 0 ≤ p.1 ∧ p.1 < 65521 ∧ 0 ≤ p.2 ∧ p.2 < 65521) : lo (pack p) = p.1 := by unfold lo pack; omega
theorem pack_hi {p : Int × Int} (h : 0 ≤ p.1 ∧ p.1 < 65521 ∧ 0 ≤ p.2 ∧ p.2 < 65521) : hi (pack p) = p.2 := by unfold hi pack; omega
theorem lohi_b (a : Int) : 0 ≤ lo a ∧ lo a < 65521 ∧ 0 ≤ hi a ∧ hi a < 65521 := by unfold lo hi; omega
theorem st_ok (a : Int) (l : List Int) : 0 ≤ (st (lo a) (hi a) l).1 ∧ (st (lo a) (hi a) l).1 < 65521 ∧ 0 ≤ (st (lo a) (hi a) l).2 ∧ (st (lo a) (hi a) l).2 < 65521 := by
  obtain ⟨a1, a2, a3, a4⟩ := lohi_b a
  exact st_b l _ _ a1 a2 a3 a4
theorem upd_append (a : Int) (l m : List Int) : upd a (l ++ m) = upd (upd a l) m := by
  unfold upd
  rw [st_append, pack_lo (st_ok a l), pack_hi (st_ok a l)]
theorem upd_b (a : Int) (l : List Int) : 0 ≤ upd a l ∧ upd a l < 4294967296 := by
  have := st_ok a l
  unfold upd pack; omega

theorem pack_or {x y : Int} (h0 : 0 ≤ x) (h1 : x < 65521) (h2 : 0 ≤ y) (h3 : y < 65521) : Go.bits .or .u32 ((y * 65536) % 4294967296) x = pack (x, y) := by
  have e : (y * 65536) % 4294967296 = y * 65536 := by omega
  rw [e, Aid.or_u32_16 (by omega) (by omega) (by omega) h0 (by omega)]
  rfl

theorem update_l0 (r : List Int) : ∀ (p : List Int) (x y : Int), Bytes r → 0 ≤ x → x < 65521 → 0 ≤ y → y < 65521 → p.length + r.length ≤ 140737488355328 →
    Ev (fun k => adler_Update.l0 k (p ++ r) x y ((p ++ r).length : Int) (p.length : Int)) (pack (st x y r)) := by
  induction r with
  | nil =>
    intro p x y _ h0 h1 h2 h3 _
    refine Ev.step (f := fun _ => some (pack (x, y))) (fun k => ?_) (Ev.now _)
    simp only [adler_Update.l0]
    rw [if_neg (by simp), pack_or h0 h1 h2 h3]
  | cons c r ih =>
    intro p x y hb h0 h1 h2 h3 hl
    have hc := hb.head
    simp only [List.length_cons] at hl
    have h := ih (p ++ [c]) ((x + c) % 65521) ((y + (x + c) % 65521) % 65521) hb.tail (by omega) (by omega) (by omega) (by omega) (by simp; omega)
    refine Ev.step (fun k => ?_) h
    simp only [adler_Update.l0]
    rw [if_pos (by simp; omega), if_pos (by omega), if_pos (by simp; omega), Aid.rd_at, Aid.wrap64_in (by omega) (by omega)]
    have e1 : c % 4294967296 = c := by omega
    have e2 : (x + c) % 4294967296 = x + c := by omega
    have e3 : (y + (x + c) % 65521) % 4294967296 = y + (x + c) % 65521 := by omega
    rw [e1, e2, e3]
    simp
theorem update_f (a : Int) (l : List Int) (ha : 0 ≤ a) (hb : Bytes l) (hl : l.length ≤ 140737488355328) : ∃ K, ∀ k, K ≤ k → adler_Update.f k a l = some (upd a l) := by
  obtain ⟨a1, a2, a3, a4⟩ := lohi_b a
  have h := update_l0 l [] (lo a) (hi a) hb a1 a2 a3 a4 (by simpa using hl)
  refine Ev.congr (g := fun k => adler_Update.f k a l) (fun k => ?_) h
  unfold adler_Update.f
  rw [Aid.andFFFF_u32, Aid.tmod_pos (by omega), Aid.tmod_pos (by omega)]
  rfl
theorem sum_f (l : List Int) (hb : Bytes l) (hl : l.length ≤ 140737488355328) : ∃ K, ∀ k, K ≤ k → adler_Sum.f k l = some (upd 1 l) := by
  refine Ev.congr (g := fun k => adler_Sum.f k l) (f := fun k => adler_Update.f k 1 l) (fun k => ?_) (update_f 1 l (by decide) hb hl)
  unfold adler_Sum.f
  simp
theorem bytes_nil : Bytes [] := fun _ h => by cases h
theorem told_f : ∃ K, ∀ k, K ≤ k → stevedorelaw2_told.f k = some true := by
  obtain ⟨K1, h1⟩ := sum_f [87, 105, 107, 105, 112, 101, 100, 105, 97] (by unfold Bytes; decide) (by decide)
  obtain ⟨K2, h2⟩ := sum_f [] bytes_nil (by decide)
  refine ⟨K1 + K2, fun k hk => ?_⟩
  unfold stevedorelaw2_told.f
  rw [h1 k (by omega), h2 k (by omega)]
  decide
theorem bytes_of {l : List Int} (h : ∀ x ∈ l, (Lit.int .u8 x).wf = true) : Bytes l := fun x hx => Aid.u8_b (h x hx)
/-! ### The fold in closed form -/
def sm : List Int → Int
  | [] => 0
  | c :: r => c + sm r
def wt : List Int → Int
  | [] => 0
  | c :: r => ((r.length : Int) + 1) * c + wt r
theorem sm_append (a b : List Int) : sm (a ++ b) = sm a + sm b := by
  induction a with
  | nil => simp [sm]
  | cons c r ih => simp only [List.cons_append, sm, ih]; omega
theorem st_eq (l : List Int) : ∀ x y, 0 ≤ x → x < 65521 → 0 ≤ y → y < 65521 → st x y l = ((x + sm l) % 65521, (y + l.length * x + wt l) % 65521) := by
  induction l with
  | nil => intro x y _ _ _ _; simp only [st, sm, wt, List.length_nil]; rw [Int.emod_eq_of_lt (by omega) (by omega), Int.emod_eq_of_lt (by simp; omega) (by simp; omega)]; simp
  | cons c r ih =>
    intro x y _ _ _ _
    simp only [st, sm, wt, List.length_cons]
    rw [ih _ _ (by omega) (by omega) (by omega) (by omega)]
    have e : (x + c) % 65521 = x + c - 65521 * ((x + c) / 65521) := Int.emod_def _ _
    have f : (y + (x + c) % 65521) % 65521 = y + (x + c) % 65521 - 65521 * ((y + (x + c) % 65521) / 65521) := Int.emod_def _ _
    congr 1
    · omega
    · rw [f]
      generalize (y + (x + c) % 65521) / 65521 = q
      rw [e]
      generalize (x + c) / 65521 = p
      have g : y + (x + c - 65521 * p) - 65521 * q + (r.length : Int) * (x + c - 65521 * p) + wt r
          = (y + ((r.length : Int) + 1) * x + (((r.length : Int) + 1) * c + wt r)) + 65521 * (- p - q - r.length * p) := by
        simp only [Int.mul_sub, Int.mul_add, Int.add_mul, Int.mul_neg, Int.one_mul]
        have : (r.length : Int) * (65521 * p) = 65521 * (r.length * p) := by rw [Int.mul_left_comm]
        omega
      rw [g, Int.add_mul_emod_self_left]
      simp

theorem place {x n : Int} (hn : 0 < n) (hm : n ≤ 500) : Int.tmod (wrap64 (Int.tmod x n + n)) n = (Int.tmod x n + n) % n ∧ 0 ≤ (Int.tmod x n + n) % n ∧ (Int.tmod x n + n) % n < n := by
  have h1 : Int.tmod x n < n := Int.tmod_lt_of_pos x hn
  have h2 : -n < Int.tmod x n := by have := Int.lt_tmod_of_pos x hn; omega
  rw [Aid.wrap64_in (by omega) (by omega), Aid.tmod_pos (by omega)]
  exact ⟨rfl, Int.emod_nonneg _ (by omega), Int.emod_lt_of_pos _ hn⟩
theorem xor_other {c b : Int} (h0 : 0 ≤ c) (h1 : c < 256) (h2 : 0 ≤ b) (h3 : b < 256) (hb : b ≠ 0) : Go.bits .xor .u8 c b ≠ c ∧ 0 ≤ Go.bits .xor .u8 c b ∧ Go.bits .xor .u8 c b < 256 := by
  obtain ⟨c, rfl⟩ := Int.eq_ofNat_of_zero_le h0
  obtain ⟨b, rfl⟩ := Int.eq_ofNat_of_zero_le h2
  rw [Aid.xor_nat Aid.stays_u8 (by omega) (by omega)]
  have hlt : c ^^^ b < 2 ^ 8 := Nat.xor_lt_two_pow (by omega) (by omega)
  refine ⟨fun e => hb ?_, by omega, by omega⟩
  have e : c ^^^ b = c := by exact_mod_cast e
  have : c ^^^ (c ^^^ b) = c ^^^ c := by rw [e]
  rw [← Nat.xor_assoc, Nat.xor_self, Nat.zero_xor] at this
  omega
theorem turned (p r : List Int) (c d : Int) (hc : 0 ≤ c) (hc' : c < 256) (hd : 0 ≤ d) (hd' : d < 256) (hne : d ≠ c) : upd 1 (p ++ c :: r) ≠ upd 1 (p ++ d :: r) := by
  intro e
  have h1 := st_ok 1 (p ++ c :: r)
  have h2 := st_ok 1 (p ++ d :: r)
  have e1 : (st (lo 1) (hi 1) (p ++ c :: r)).1 = (st (lo 1) (hi 1) (p ++ d :: r)).1 := by
    unfold upd pack at e; omega
  rw [st_eq _ _ _ (by decide) (by decide) (by decide) (by decide), st_eq _ _ _ (by decide) (by decide) (by decide) (by decide)] at e1
  simp only [sm_append, sm] at e1
  omega

theorem AdlerOne : stevedorelaw2_AdlerOne.Pure := by
  intro l a1 a2 _ hl hb _ h2
  have h2 := Aid.u8_b h2
  have hb := bytes_of hb
  obtain ⟨K0, h0⟩ := told_f
  have hj : ∀ b, (b = true ∨ (0 < l.length ∧ l.length ≤ 500 ∧ a2 ≠ 0)) → ∃ K, ∀ k, K ≤ k → stevedorelaw2_AdlerOne.j0 k l a1 a2 b = some true := by
    intro b hc
    by_cases e : b = true
    · refine ⟨K0 + 1, fun k hk => ?_⟩
      obtain ⟨k, rfl⟩ : ∃ m, k = m + 1 := ⟨k - 1, by omega⟩
      simp only [stevedorelaw2_AdlerOne.j0]
      rw [if_pos e, h0 k (by omega)]
      rfl
    · obtain ⟨hp, hm, hne⟩ : 0 < l.length ∧ l.length ≤ 500 ∧ a2 ≠ 0 := by rcases hc with hc | hc; exact absurd hc e; exact hc
      obtain ⟨q1, q2, q3⟩ := place (x := a1) (n := (l.length : Int)) (by omega) (by omega)
      generalize hq : (Int.tmod a1 (l.length : Int) + (l.length : Int)) % (l.length : Int) = q at q1 q2 q3
      obtain ⟨q, rfl⟩ := Int.eq_ofNat_of_zero_le q2
      have hql : q < l.length := by omega
      have hrd : rd l (q : Int) = l[q] := by unfold rd; simp [hql]
      have hcb := hb l[q] (List.getElem_mem _)
      obtain ⟨x1, x2, x3⟩ := xor_other hcb.1 hcb.2 h2.1 h2.2 hne
      have hset : l.set q (Go.bits .xor .u8 l[q] a2) = l.take q ++ Go.bits .xor .u8 l[q] a2 :: l.drop (q + 1) := List.set_eq_take_append_cons_drop.trans (by rw [if_pos hql])
      have hself : l = l.take q ++ l[q] :: l.drop (q + 1) := by rw [List.getElem_cons_drop, List.take_append_drop]
      have hbs : Bytes (l.set q (Go.bits .xor .u8 l[q] a2)) := fun x hx => by
        rcases List.mem_or_eq_of_mem_set hx with h | h
        · exact hb x h
        · subst h; exact ⟨x2, x3⟩
      obtain ⟨K1, s1⟩ := sum_f l hb (by omega)
      obtain ⟨K2, s2⟩ := sum_f (l.set q (Go.bits .xor .u8 l[q] a2)) hbs (by simp; omega)
      refine ⟨K0 + K1 + K2 + 1, fun k hk => ?_⟩
      obtain ⟨k, rfl⟩ : ∃ m, k = m + 1 := ⟨k - 1, by omega⟩
      simp only [stevedorelaw2_AdlerOne.j0]
      rw [if_neg e]
      simp only [Option.bind_some, List.length_nil, List.nil_append]
      rw [if_pos (by omega), if_neg (by omega), q1, if_pos (by omega), if_pos (by omega), h0 k (by omega), hrd]
      simp only [Option.bind_some, if_true, Int.toNat_natCast]
      rw [s1 k (by omega), s2 k (by omega)]
      simp only [Option.bind_some, Option.some.injEq, bne_iff_ne]
      rw [hset]
      intro h
      refine turned (l.take q) (l.drop (q + 1)) l[q] _ hcb.1 hcb.2 x2 x3 x1 ?_
      rw [← h, ← hself]
  unfold stevedorelaw2_AdlerOne.f
  by_cases c1 : (l.length : Int) = 0
  · simp only [if_pos c1]; exact Aid.once (hj _ (Or.inl rfl))
  · simp only [if_neg c1]
    by_cases c2 : (l.length : Int) > 500
    · simp only [if_pos c2]; exact Aid.once (hj _ (Or.inl rfl))
    · simp only [if_neg c2]
      by_cases c3 : a2 = 0
      · exact Aid.once (hj _ (Or.inl (by simp [c3])))
      · exact Aid.once (hj _ (Or.inr ⟨by omega, by omega, c3⟩))

end Go.Proofs.Ytfdhkbhiedcgpaa.Pure
