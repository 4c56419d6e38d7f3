/- The program's Adler sums are the document's: gone on from any sum, and from 1, over any bytes repeated up to 16 times; the bytes stay. -/
import Derived.Test.YtfdhkbhiedcgpaaWalkAdlerSums
import Derived.Test.YtfdhkbhiedcgpaaAid
namespace Go.Proofs.Ytfdhkbhiedcgpaa.Pure
open Go.RowKit Go.Proofs.Ytfdhkbhiedcgpaa.PAdlerSums Go.Proofs.YtfdhkbhiedcgpaaW.PrintWords Go.Proofs.YtfdhkbhiedcgpaaW.PrintLast

/-! ### What adler.Update comes to: a fold over the bytes -/
def Bytes (l : List Int) : Prop := ∀ c ∈ l, 0 ≤ c ∧ c < 256
theorem Bytes.tail {c : Int} {r : List Int} (h : Bytes (c :: r)) : Bytes r := fun x hx => h x (List.mem_cons_of_mem _ hx)
theorem Bytes.head {c : Int} {r : List Int} (h : Bytes (c :: r)) : 0 ≤ c ∧ c < 256 := h c (List.mem_cons_self ..)
theorem Bytes.append {a b : List Int} (ha : Bytes a) (hb : Bytes b) : Bytes (a ++ b) := fun x hx => by
  rcases List.mem_append.1 hx with h | h
  · exact ha x h
  · exact hb x h

def st (x y : Int) : List Int → Int × Int
  | [] => (x, y)
  | c :: r => st ((x + c) % 65521) ((y + (x + c) % 65521) % 65521) r
def pack (p : Int × Int) : Int := p.2 * 65536 + p.1
def lo (a : Int) : Int := a % 65536 % 65521
def hi (a : Int) : Int := a / 65536 % 65521
def upd (a : Int) (l : List Int) : Int := pack (st (lo a) (hi a) l)

theorem st_append (a b : List Int) : ∀ x y, st x y (a ++ b) = st (st x y a).1 (st x y a).2 b := by
  induction a with
  | nil => intro x y; rfl
  | cons c r ih => intro x y; simp only [List.cons_append, st]; exact ih _ _
theorem st_b (l : List Int) : ∀ x y, 0 ≤ x → x < 65521 → 0 ≤ y → y < 65521 → 0 ≤ (st x y l).1 ∧ (st x y l).1 < 65521 ∧ 0 ≤ (st x y l).2 ∧ (st x y l).2 < 65521 := by
  induction l with
  | nil => intro x y a b c d; exact ⟨a, b, c, d⟩
  | cons c r ih => intro x y _ _ _ _; simp only [st]; exact ih _ _ (by omega) (by omega) (by omega) (by omega)
theorem pack_lo {p : Int × Int} (h : 0 ≤ p.1 ∧ p.1 < 65521 ∧ 0 ≤ p.2 ∧ p.2 < 65521) : lo (pack p) = p.1 := by unfold lo pack; omega
theorem pack_hi {p : Int × Int} (h : 0 ≤ p.1 ∧ p.1 < 65521 ∧ 0 ≤ p.2 ∧ p.2 < 65521) : hi (pack p) = p.2 := by unfold hi pack; omega
theorem lohi_b (a : Int) : 0 ≤ lo a ∧ lo a < 65521 ∧ 0 ≤ hi a ∧ hi a < 65521 := by unfold lo hi; omega
theorem st_ok (a : Int) (l : List Int) : 0 ≤ (st (lo a) (hi a) l).1 ∧ (st (lo a) (hi a) l).1 < 65521 ∧ 0 ≤ (st (lo a) (hi a) l).2 ∧ (st (lo a) (hi a) l).2 < 65521 := by
  obtain ⟨a1, a2, a3, a4⟩ := lohi_b a
  exact st_b l _ _ a1 a2 a3 a4
theorem upd_append (a : Int) (l m : List Int) : upd a (l ++ m) = upd (upd a l) m := by
  unfold upd
  rw [st_append, pack_lo (st_ok a l), pack_hi (st_ok a l)]
theorem upd_b (a : Int) (l : List Int) : 0 ≤ upd a l ∧ upd a l < 4294967296 := by
  have := st_ok a l
  unfold upd pack; omega

theorem pack_or {x y : Int} (h0 : 0 ≤ x) (h1 : x < 65521) (h2 : 0 ≤ y) (h3 : y < 65521) : Go.bits .or .u32 ((y * 65536) % 4294967296) x = pack (x, y) := by
  have e : (y * 65536) % 4294967296 = y * 65536 := by omega
  rw [e, Aid.or_u32_16 (by omega) (by omega) (by omega) h0 (by omega)]
  rfl

theorem update_l0 (r : List Int) : ∀ (p : List Int) (x y : Int), Bytes r → 0 ≤ x → x < 65521 → 0 ≤ y → y < 65521 → p.length + r.length ≤ 140737488355328 →
    Ev (fun k => adler_Update.l0 k (p ++ r) x y ((p ++ r).length : Int) (p.length : Int)) (pack (st x y r)) := by
  induction r with
  | nil =>
    intro p x y _ h0 h1 h2 h3 _
    refine Ev.step (f := fun _ => some (pack (x, y))) (fun k => ?_) (Ev.now _)
    simp only [adler_Update.l0]
    rw [if_neg (by simp), pack_or h0 h1 h2 h3]
  | cons c r ih =>
    intro p x y hb h0 h1 h2 h3 hl
    have hc := hb.head
    simp only [List.length_cons] at hl
    have h := ih (p ++ [c]) ((x + c) % 65521) ((y + (x + c) % 65521) % 65521) hb.tail (by omega) (by omega) (by omega) (by omega) (by simp; omega)
    refine Ev.step (fun k => ?_) h
    simp only [adler_Update.l0]
    rw [if_pos (by simp; omega), if_pos (by omega), if_pos (by simp; omega), Aid.rd_at, Aid.wrap64_in (by omega) (by omega)]
    have e1 : c % 4294967296 = c := by omega
    have e2 : (x + c) % 4294967296 = x + c := by omega
    have e3 : (y + (x + c) % 65521) % 4294967296 = y + (x + c) % 65521 := by omega
    rw [e1, e2, e3]
    simp
theorem update_f (a : Int) (l : List Int) (ha : 0 ≤ a) (hb : Bytes l) (hl : l.length ≤ 140737488355328) : ∃ K, ∀ k, K ≤ k → adler_Update.f k a l = some (upd a l) := by
  obtain ⟨a1, a2, a3, a4⟩ := lohi_b a
  have h := update_l0 l [] (lo a) (hi a) hb a1 a2 a3 a4 (by simpa using hl)
  refine Ev.congr (g := fun k => adler_Update.f k a l) (fun k => ?_) h
  unfold adler_Update.f
  rw [Aid.andFFFF_u32, Aid.tmod_pos (by omega), Aid.tmod_pos (by omega)]
  rfl
theorem sum_f (l : List Int) (hb : Bytes l) (hl : l.length ≤ 140737488355328) : ∃ K, ∀ k, K ≤ k → adler_Sum.f k l = some (upd 1 l) := by
  refine Ev.congr (g := fun k => adler_Sum.f k l) (f := fun k => adler_Update.f k 1 l) (fun k => ?_) (update_f 1 l (by decide) hb hl)
  unfold adler_Sum.f
  simp
theorem bytes_nil : Bytes [] := fun _ h => by cases h
theorem told_f : ∃ K, ∀ k, K ≤ k → stevedorelaw2_told.f k = some true := by
  obtain ⟨K1, h1⟩ := sum_f [87, 105, 107, 105, 112, 101, 100, 105, 97] (by unfold Bytes; decide) (by decide)
  obtain ⟨K2, h2⟩ := sum_f [] bytes_nil (by decide)
  refine ⟨K1 + K2, fun k hk => ?_⟩
  unfold stevedorelaw2_told.f
  rw [h1 k (by omega), h2 k (by omega)]
  decide
theorem bytes_of {l : List Int} (h : ∀ x ∈ l, (Lit.int .u8 x).wf = true) : Bytes l := fun x hx => Aid.u8_b (h x hx)

theorem ref_l0 (r : List Int) : ∀ (p : List Int) (x y : Int), Bytes r → 0 ≤ x → x < 65521 → 0 ≤ y → y < 65521 → p.length + r.length ≤ 140737488355328 →
    Ev (fun k => stevedoreref1_Adler.l0 k (p ++ r) x y (p.length : Int)) (pack (st x y r)) := by
  induction r with
  | nil =>
    intro p x y _ h0 h1 h2 h3 _
    refine Ev.step (f := fun _ => some (pack (x, y))) (fun k => ?_) (Ev.now _)
    simp only [stevedoreref1_Adler.l0]
    rw [if_neg (by simp), pack_or h0 h1 h2 h3]
  | cons c r ih =>
    intro p x y hb h0 h1 h2 h3 hl
    have hc := hb.head
    simp only [List.length_cons] at hl
    have h := ih (p ++ [c]) ((x + c) % 65521) ((y + (x + c) % 65521) % 65521) hb.tail (by omega) (by omega) (by omega) (by omega) (by simp; omega)
    refine Ev.step (fun k => ?_) h
    simp only [stevedoreref1_Adler.l0]
    rw [if_pos (by simp; omega), if_pos (by omega), Aid.rd_at, Aid.wrap64_in (by omega) (by omega)]
    have e1 : c % 4294967296 = c := by omega
    have e2 : (x + c) % 4294967296 = x + c := by omega
    have e3 : (y + (x + c) % 65521) % 4294967296 = y + (x + c) % 65521 := by omega
    rw [e1, e2, e3]
    simp
theorem ref_f (a : Int) (l : List Int) (ha : 0 ≤ a) (hb : Bytes l) (hl : l.length ≤ 140737488355328) : ∃ K, ∀ k, K ≤ k → stevedoreref1_Adler.f k a l = some (upd a l) := by
  obtain ⟨a1, a2, a3, a4⟩ := lohi_b a
  have h := ref_l0 l [] (lo a) (hi a) hb a1 a2 a3 a4 (by simpa using hl)
  refine Ev.congr (g := fun k => stevedoreref1_Adler.f k a l) (fun k => ?_) h
  unfold stevedoreref1_Adler.f
  rw [Aid.andFFFF_u32, Aid.tmod_pos (by omega), Aid.tmod_pos (by omega)]
  rfl

theorem law_l0 (a0 : Int) (l1 : List Int) (a2 : Int) (ha : 0 ≤ a0) (hl1 : l1.length ≤ 500) (hb1 : Bytes l1) (d : Nat) : ∀ (i : Int) (acc : List Int), 0 ≤ i → i + d = 1 + a2 % 16 → Bytes acc → acc.length ≤ i.toNat * 500 →
    ∃ K, ∀ k, K ≤ k → stevedorelaw2_AdlerSums.l0 k a0 l1 a2 acc i = some true := by
  induction d with
  | zero =>
    intro i acc h0 hi hacc hal
    have ht := told_f
    obtain ⟨K0, h0'⟩ := ht
    obtain ⟨K1, h1⟩ := update_f a0 acc ha hacc (by omega)
    obtain ⟨K2, h2⟩ := ref_f a0 acc ha hacc (by omega)
    obtain ⟨K3, h3⟩ := sum_f acc hacc (by omega)
    obtain ⟨K4, h4⟩ := ref_f 1 acc (by decide) hacc (by omega)
    refine ⟨K0 + K1 + K2 + K3 + K4 + 1, fun k hk => ?_⟩
    obtain ⟨k, rfl⟩ : ∃ m, k = m + 1 := ⟨k - 1, by omega⟩
    simp only [stevedorelaw2_AdlerSums.l0]
    rw [Aid.and15_i64, Aid.wrap64_in (by omega) (by omega), if_neg (by omega)]
    simp only [Option.bind_some, List.length_nil, List.nil_append]
    rw [if_pos (by omega), h0' k (by omega), h1 k (by omega), h2 k (by omega), h3 k (by omega), h4 k (by omega)]
    simp
  | succ d ih =>
    intro i acc h0 hi hacc hal
    obtain ⟨K, h⟩ := ih (i + 1) (acc ++ l1) (by omega) (by omega) (hacc.append hb1) (by simp; omega)
    refine ⟨K + 1, fun k hk => ?_⟩
    obtain ⟨k, rfl⟩ : ∃ m, k = m + 1 := ⟨k - 1, by omega⟩
    simp only [stevedorelaw2_AdlerSums.l0]
    rw [Aid.and15_i64, Aid.wrap64_in (x := 1 + a2 % 16) (by omega) (by omega), if_pos (by omega), if_pos (by omega), Aid.wrap64_in (by omega) (by omega)]
    exact h k (by omega)

theorem AdlerSums : stevedorelaw2_AdlerSums.Pure := by
  intro a0 l1 a2 ha _ hl1 hb1 _
  have ha := Aid.u32_b ha
  have hb1 := bytes_of hb1
  unfold stevedorelaw2_AdlerSums.f
  by_cases c1 : (l1.length : Int) > 500
  · obtain ⟨K, h⟩ := told_f
    exact ⟨K, by rw [if_pos c1, h K (Nat.le_refl _)]; rfl⟩
  · simp only [if_neg c1]
    exact Aid.once (law_l0 a0 l1 a2 ha.1 (by omega) hb1 (1 + a2 % 16).toNat 0 [] (by omega) (by omega) bytes_nil (by simp))

end Go.Proofs.Ytfdhkbhiedcgpaa.Pure
