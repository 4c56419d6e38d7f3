/- A feed in memory: all that was pushed (P), how many bits were used (at), whether it has ended; and contracts of the feed's methods that only read. -/
import Derived.Test.YtplabbnmongbaaaProg
import Derived.Test.YtplabbnmongbaaaOnly
import Derived.WalkKit
import Derived.KernelRfl
import Derived.WalkLawsBesides
import Derived.WalkSpells
import Derived.Deep.QuietTactic
import Derived.BigQuiet
import Derived.BigRegion
import Derived.Deep.Draws
import Derived.Deep.LoopGhost
import Derived.Deep.CutRange
import Derived.Deep.DeepCutAuto
import Derived.Laws.CopyOwn
import Derived.Lib.Hide
import Derived.Outline
import Derived.Test.YtplabbnmongbaaaAid
namespace Go.Proofs.Ytplabbnmongbaaa.Walks
open Go Go.RowKit Go.Proofs.Ytplabbnmongbaaa.Aid

/-- A slice of bytes that lies in a block of bytes. -/
def Held (w : World) (A : Option Addr) (l : List Int) : Prop :=
  0 < l.length → ∃ b o cs, A = some ⟨b, o, none⟩ ∧ w.heap[b]? = some (.cells cs 5 (0, 0)) ∧ ∀ j, j < l.length → cs[o + j]? = some (.int .u8 (l.getD j 0))
structure FeedAt (w : World) (g : Nat) (P : List Int) (k : Nat) (e : Bool) : Prop where
  mem : ∃ A cap, w.heap[g]? = some (.cells #[.slice A (P.drop (k / 8)).length cap, .int .i64 ((k % 8 : Nat) : Int), .int .i64 ((k / 8 : Nat) : Int), .bool e] 44 (0, 0)) ∧ (P.drop (k / 8)).length ≤ cap ∧ Held w A (P.drop (k / 8))
  le : k ≤ 8 * P.length
  small : P.length ≤ 1000000
  bytes : ∀ c ∈ P, 0 ≤ c ∧ c < 256
theorem Held.only {S : Nat → Prop} {w w' : World} {A : Option Addr} {l : List Int} (h : Held w A l) (ho : Only S w w') (hs : ∀ b cs, w.heap[b]? = some (.cells cs 5 (0, 0)) → ¬ S b) : Held w' A l := fun hl => by
  obtain ⟨b, o, cs, e, hb, hc⟩ := h hl
  exact ⟨b, o, cs, e, ho.keeps hb (hs b cs hb), hc⟩
theorem cells_ne {w : World} {g b : Nat} {cs cs' : Array Value} {t t' : TypeId} {f f' : Nat × Nat} (h : w.heap[g]? = some (.cells cs t f)) (h' : w.heap[b]? = some (.cells cs' t' f')) (hn : t ≠ t') : b ≠ g := by
  rintro rfl
  rw [h] at h'
  injection h' with h'
  injection h' with _ ht
  exact hn ht
theorem FeedAt.only {S : Nat → Prop} {w w' : World} {g : Nat} {P : List Int} {k : Nat} {e : Bool} (h : FeedAt w g P k e) (ho : Only S w w') (hg : ¬ S g) (hs : ∀ b cs, w.heap[b]? = some (.cells cs 5 (0, 0)) → ¬ S b) : FeedAt w' g P k e := by
  obtain ⟨⟨A, cap, h1, h2, h3⟩, h4, h5, h6⟩ := h
  exact ⟨⟨A, cap, ho.keeps h1 hg, h2, h3.only ho hs⟩, h4, h5, h6⟩
theorem FeedAt.drewN {w : World} {g : Nat} {P : List Int} {k : Nat} {e : Bool} (h : FeedAt w g P k e) (n : Nat) : FeedAt (w.drewN n) g P k e := ⟨h.mem, h.le, h.small, h.bytes⟩

theorem ret_int {k : IntKind} {a b : Int} (h : a = b) : Ending.returned (.int k a) = .returned (.int k b) := by rw [h]
/-- How many bits are there. -/
def bitsOf (P : List Int) (k : Nat) : Int := 8 * P.length - k
theorem bits_any {w : World} {g : Nat} {P : List Int} {k : Nat} {e : Bool} (h : FeedAt w g P k e) : Calls Try.prog 8 #[.pointer (some ⟨g, 0, none⟩)] w fun x w' => x = .returned (.int .i64 (bitsOf P k)) ∧ ∃ m, w' = w.drewN m := by
  obtain ⟨⟨A, cap, hb, hc, hh⟩, hle, hsm, _⟩ := h
  have c0 : w.cell? ⟨g, 0, none⟩ = _ := Joins.cell_of_block hb 0
  have c1 : w.cell? ⟨g, 1, none⟩ = _ := Joins.cell_of_block hb 1
  simp only [List.getElem?_toArray, List.getElem?_cons_zero, List.getElem?_cons_succ] at c0 c1
  have hl : (P.drop (k / 8)).length = P.length - k / 8 := List.length_drop
  clear hb hh
  have HE := Lib.hid (show (8 * ((P.drop (k / 8)).length : Int)) - ((k % 8 : Nat) : Int) = bitsOf P k by unfold bitsOf; rw [hl]; omega)
  have b1 : (P.drop (k / 8)).length ≤ 1000000 := by omega
  generalize (P.drop (k / 8)).length = L at *
  have b2 : k % 8 < 8 := by omega
  generalize k % 8 = K at *
  clear hl hle hsm
  go_enter Try.func8, Try.ntmps8
  go_wp2_with fail
  go_quiet (fail)
  go_wp2_with fail
  go_ret
  exact ⟨ret_int HE.out, _, rfl⟩
theorem used_any {w : World} {g : Nat} {P : List Int} {k : Nat} {e : Bool} (h : FeedAt w g P k e) : Calls Try.prog 11 #[.pointer (some ⟨g, 0, none⟩)] w fun x w' => x = .returned (.int .i64 (((k + 7) / 8 : Nat) : Int)) ∧ w' = w := by
  obtain ⟨⟨A, cap, hb, hc, hh⟩, hle, hsm, _⟩ := h
  have c1 : w.cell? ⟨g, 1, none⟩ = _ := Joins.cell_of_block hb 1
  have c2 : w.cell? ⟨g, 2, none⟩ = _ := Joins.cell_of_block hb 2
  simp only [List.getElem?_toArray, List.getElem?_cons_zero, List.getElem?_cons_succ] at c1 c2
  clear hb hh hc
  obtain ⟨K, hK⟩ : ∃ K, K = k % 8 := ⟨_, rfl⟩
  obtain ⟨U, hU⟩ : ∃ U, U = k / 8 := ⟨_, rfl⟩
  rw [← hK] at c1
  rw [← hU] at c2
  have b1 : U ≤ 1000000 := by omega
  have HE := Lib.hid (show ((k + 7) / 8 : Nat) = if 0 < K then U + 1 else U by split <;> omega)
  clear hK hU hle hsm
  by_cases hz : 0 < K
  · go_enter Try.func11, Try.ntmps11
    go_wp2_with fail
    go_ret
    exact ⟨ret_int (by rw [HE.out, if_pos hz]; omega), rfl⟩
  · have hz' : decide ((K : Int) > 0) = false := by simp; omega
    go_enter Try.func11, Try.ntmps11
    go_wp2_with fail
    go_ret
    exact ⟨ret_int (by rw [HE.out, if_neg hz]), rfl⟩
theorem ended_any {w : World} {g : Nat} {P : List Int} {k : Nat} {e : Bool} (h : FeedAt w g P k e) : Calls Try.prog 18 #[.pointer (some ⟨g, 0, none⟩)] w fun x w' => x = .returned (.bool e) ∧ w' = w := by
  obtain ⟨⟨A, cap, hb, hc, hh⟩, hle, hsm, _⟩ := h
  have c3 : w.cell? ⟨g, 3, none⟩ = _ := Joins.cell_of_block hb 3
  simp only [List.getElem?_toArray, List.getElem?_cons_zero, List.getElem?_cons_succ] at c3
  clear hb hh hc
  go_enter Try.func18, Try.ntmps18
  go_wp2_with fail
  go_ret
  exact ⟨rfl, rfl⟩
theorem held_any {w : World} {g : Nat} {P : List Int} {k : Nat} {e : Bool} (h : FeedAt w g P k e) : Calls Try.prog 19 #[.pointer (some ⟨g, 0, none⟩)] w fun x w' => x = .returned (.int .i64 ((P.length : Int) - ((k / 8 : Nat) : Int))) ∧ w' = w := by
  obtain ⟨⟨A, cap, hb, hc, hh⟩, hle, hsm, _⟩ := h
  have c0 : w.cell? ⟨g, 0, none⟩ = _ := Joins.cell_of_block hb 0
  simp only [List.getElem?_toArray, List.getElem?_cons_zero] at c0
  have hl : (P.drop (k / 8)).length = P.length - k / 8 := List.length_drop
  clear hb hh hc
  have HE := Lib.hid (show ((P.drop (k / 8)).length : Int) = (P.length : Int) - ((k / 8 : Nat) : Int) by rw [hl]; omega)
  generalize (P.drop (k / 8)).length = L at *
  clear hl
  go_enter Try.func19, Try.ntmps19
  go_wp2_with fail
  go_ret
  exact ⟨ret_int HE.out, rfl⟩
/-- A bit of all that was pushed; some bits as a number, the first one the lowest. -/
def bitP (P : List Int) (j : Nat) : Int := P.getD (j / 8) 0 / 2 ^ (j % 8) % 2
def pkN (P : List Int) (k : Nat) : Nat → Int
  | 0 => 0
  | i + 1 => pkN P k i + bitP P (k + i) * 2 ^ i
def peekV (P : List Int) (k : Nat) (n : Int) : Int := if 1 ≤ n ∧ n ≤ 32 then pkN P k (min n.toNat (8 * P.length - k)) else 0
theorem bitP_b (P : List Int) (j : Nat) : 0 ≤ bitP P j ∧ bitP P j ≤ 1 := by unfold bitP; omega
theorem pkN_b (P : List Int) (k : Nat) : ∀ i, 0 ≤ pkN P k i ∧ pkN P k i < 2 ^ i
  | 0 => by simp [pkN]
  | i + 1 => by
    obtain ⟨h1, h2⟩ := pkN_b P k i
    obtain ⟨h3, h4⟩ := bitP_b P (k + i)
    unfold pkN
    rw [Int.pow_succ]
    have : bitP P (k + i) = 0 ∨ bitP P (k + i) = 1 := by omega
    rcases this with e | e <;> rw [e] <;> omega
theorem peek_no {w : World} {g : Nat} (n : Int) (h : n < 1 ∨ 32 < n) : Calls Try.prog 9 #[.pointer (some ⟨g, 0, none⟩), .int .i64 n] w fun x w' => x = .returned (.int .u32 0) ∧ ∃ m, w' = w.drewN m := by
  by_cases h1 : n < 1
  · go_enter Try.func9, Try.ntmps9
    go_wp2_with fail
    go_ret
    exact ⟨rfl, 0, rfl⟩
  · have h2 : n > 32 := by omega
    have h1' : decide (n < 1) = false := by simp; omega
    clear h
    go_enter Try.func9, Try.ntmps9
    go_wp2_with fail
    go_ret
    exact ⟨rfl, 0, rfl⟩
theorem or_bit {v b : Int} {j : Nat} (hj : j < 32) (h0 : 0 ≤ v) (h1 : v < 2 ^ j) (hb : b = 0 ∨ b = 1) : Go.bits .or .u32 v (b * 2 ^ j) = v + b * 2 ^ j := by
  have hp : (2 : Int) ^ j * 2 ≤ 2 ^ 32 := by
    have h := Nat.pow_le_pow_right (n := 2) (by decide) (show j + 1 ≤ 32 by omega)
    rw [Nat.pow_succ] at h
    exact_mod_cast h
  have hp0 : (0 : Int) < 2 ^ j := Int.pow_pos (by decide)
  have e32 : (2 : Int) ^ 32 = 4294967296 := by decide
  rcases hb with rfl | rfl
  · simp only [Int.zero_mul, Int.add_zero]
    obtain ⟨a, rfl⟩ := Int.eq_ofNat_of_zero_le h0
    have := or_nat stays_u32 (a := a) (b := 0) (by omega) (by omega)
    simpa using this
  · rw [Int.one_mul]
    obtain ⟨a, rfl⟩ := Int.eq_ofNat_of_zero_le h0
    have ha : a < 2 ^ j := by exact_mod_cast h1
    have hp2 : 2 ^ j < 2 ^ 32 := Nat.pow_lt_pow_right (by decide) hj
    have h := or_nat stays_u32 (a := a) (b := 2 ^ j) (by omega) hp2
    have e : a ||| 2 ^ j = a + 2 ^ j := by
      rw [Nat.or_comm]
      have := Nat.two_pow_add_eq_or_of_lt ha 1
      rw [Nat.mul_one] at this
      omega
    rw [e] at h
    simpa using h
theorem step_v (P : List Int) (k j : Nat) (hj : j < 32) (c : Int) (r : Nat) (hb : c / 2 ^ r % 2 = bitP P (k + j)) :
    Go.bits .or .u32 (pkN P k j) (Go.bits .and .u8 (c / 2 ^ r) 1 % 4294967296 * 2 ^ j % 4294967296) = pkN P k (j + 1) := by
  have hm : Go.bits .and .u8 (c / 2 ^ r) 1 = c / 2 ^ r % 2 := mask_any stays_u8 (i := 1) (by decide) _
  obtain ⟨h0, h1⟩ := pkN_b P k j
  obtain ⟨b0, b1⟩ := bitP_b P (k + j)
  rw [hm, hb]
  have hp : (2 : Int) ^ j * 2 ≤ 2 ^ 32 := by
    have h := Nat.pow_le_pow_right (n := 2) (by decide) (show j + 1 ≤ 32 by omega)
    rw [Nat.pow_succ] at h
    exact_mod_cast h
  have hp0 : (0 : Int) < 2 ^ j := Int.pow_pos (by decide)
  have e32 : (2 : Int) ^ 32 = 4294967296 := by decide
  have hcase : bitP P (k + j) = 0 ∨ bitP P (k + j) = 1 := by omega
  have e1 : bitP P (k + j) % 4294967296 = bitP P (k + j) := by omega
  have e2 : bitP P (k + j) * 2 ^ j % 4294967296 = bitP P (k + j) * 2 ^ j := by
    rcases hcase with e | e <;> rw [e] <;> omega
  rw [e1, e2, or_bit hj h0 h1 hcase]
  rfl
set_option maxHeartbeats 1000000 in
theorem peek_yes {w : World} {g : Nat} {P : List Int} {k : Nat} {e : Bool} (h : FeedAt w g P k e) (n : Int) (h1 : 1 ≤ n) (h2 : n ≤ 32) : Calls Try.prog 9 #[.pointer (some ⟨g, 0, none⟩), .int .i64 n] w fun x w' => x = .returned (.int .u32 (pkN P k (min n.toNat (8 * P.length - k)))) ∧ ∃ m, w' = w.drewN m := by
  have HF := Lib.hid h
  obtain ⟨⟨A, cap, hb, hc, hh⟩, hle, hsm, hby⟩ := h
  have c0 : w.cell? ⟨g, 0, none⟩ = _ := Joins.cell_of_block hb 0
  have c1 : w.cell? ⟨g, 1, none⟩ = _ := Joins.cell_of_block hb 1
  simp only [List.getElem?_toArray, List.getElem?_cons_zero, List.getElem?_cons_succ] at c0 c1
  have hl : (P.drop (k / 8)).length = P.length - k / 8 := List.length_drop
  clear hb
  have n1 : decide (n < 1) = false := by simp; omega
  have n2 : decide (n > 32) = false := by simp; omega
  have HL := Lib.hid hl
  have HH := Lib.hid hh
  clear hl hh
  obtain ⟨L, hLe⟩ : ∃ L, L = (P.drop (k / 8)).length := ⟨_, rfl⟩
  obtain ⟨K, hKe⟩ : ∃ K, K = k % 8 := ⟨_, rfl⟩
  rw [← hLe] at c0 hc
  rw [← hKe] at c1
  have bK : K < 8 := by omega
  have HLe := Lib.hid hLe
  have HKe := Lib.hid hKe
  have bL : L ≤ 1000000 := by have := HL.out; omega
  clear hLe hKe
  go_enter Try.func9, Try.ntmps9
  go_wp2_with fail
  clear n1 n2
  go_loopw [5, 6] (fun v i wr => ∃ (j m : Nat), i = .int .i64 (j : Int) ∧ v = .int .u32 (pkN P k j) ∧ j ≤ min n.toNat (8 * P.length - k) ∧ wr = w.drewN m) (fun _ i _ => 32 - (intOf i).toNat)
  case atStart => exact ⟨0, 0, rfl, rfl, Nat.zero_le _, rfl⟩
  case round =>
    obtain ⟨j, m, rfl, rfl, hj, rfl⟩ := hrel
    by_cases d1 : (j : Int) < n
    · by_cases d2 : (j : Int) < bitsOf P k
      · have b1 : j < 32 := by omega
        have hl1 := HL.out
        have hl2 := HLe.out
        have hl3 := HKe.out
        have hidx : (K + j) / 8 < L := by unfold bitsOf at d2; omega
        obtain ⟨b, o, cs, hA, hblk, hcs⟩ := HH.out (by omega)
        subst hA
        have hcell : w.cell? ⟨b, o + (K + j) / 8, none⟩ = some (.int .u8 ((P.drop (k / 8)).getD ((K + j) / 8) 0)) := (Joins.cell_of_block hblk _).trans (hcs _ (by omega))
        have hcell0 : (K + j) / 8 = 0 → w.cell? ⟨b, o, none⟩ = some (.int .u8 ((P.drop (k / 8)).getD ((K + j) / 8) 0)) := fun e => by rw [e] at hcell ⊢; simpa using hcell
        have hget : (P.drop (k / 8)).getD ((K + j) / 8) 0 = P.getD ((k + j) / 8) 0 := by
          simp only [List.getD_eq_getElem?_getD, List.getElem?_drop]; congr 2; omega
        rw [hget] at hcell hcell0
        have hbit : P.getD ((k + j) / 8) 0 / 2 ^ ((K + j) % 8) % 2 = bitP P (k + j) := by unfold bitP; congr 3; omega
        have hcb : 0 ≤ P.getD ((k + j) / 8) 0 ∧ P.getD ((k + j) / 8) 0 < 256 := by
          rw [List.getD_eq_getElem?_getD]
          cases hq : P[(k + j) / 8]? with
          | none => simp
          | some c => exact hby c (List.mem_of_getElem? hq)
        have HV := Lib.hid (step_v P k j b1 _ _ hbit)
        generalize P.getD ((k + j) / 8) 0 = c at hcell hcell0 HV
        have hi1 : 0 ≤ ((K : Int) + j) / 8 := by omega
        have hi2 : ((K : Int) + j) / 8 < L := by omega
        have HJ := Lib.hid (show j + 1 ≤ min n.toNat (8 * P.length - k) by unfold bitsOf at d2; omega)
        clear hcs hblk hl1 hl2 hl3 hget hbit hcb hcell0 hj hby hle hsm
        go_wp2_with (first | (go_at_call 8; refine (bits_any (HF.out.drewN _)).mono ?_; rintro x w' ⟨rfl, mm, rfl⟩))
        go_roundw
        case rel => exact ⟨j + 1, m + mm, by go_num, congrArg (Value.int .u32) HV.out, HJ.out, rfl⟩
        case measure => simp [intOf]; omega
      · have d2' : decide ((j : Int) < bitsOf P k) = false := by simpa using d2
        have HJ := Lib.hid (show min n.toNat (8 * P.length - k) = j by unfold bitsOf at d2; omega)
        clear hj d2 hle hsm hby
        go_wp2_with (first | (go_at_call 8; refine (bits_any (HF.out.drewN _)).mono ?_; rintro x w' ⟨rfl, mm, rfl⟩))
        go_ret
        exact ⟨ret_int (by rw [HJ.out]), _, rfl⟩
    · have d1' : decide ((j : Int) < n) = false := by simpa using d1
      have HJ := Lib.hid (show min n.toNat (8 * P.length - k) = j by omega)
      clear hj d1 hle hsm hby
      go_wp2_with fail
      go_ret
      exact ⟨ret_int (by rw [HJ.out]), _, rfl⟩
theorem peek_any {w : World} {g : Nat} {P : List Int} {k : Nat} {e : Bool} (h : FeedAt w g P k e) (n : Int) : Calls Try.prog 9 #[.pointer (some ⟨g, 0, none⟩), .int .i64 n] w fun x w' => x = .returned (.int .u32 (peekV P k n)) ∧ ∃ m, w' = w.drewN m := by
  unfold peekV
  by_cases c : 1 ≤ n ∧ n ≤ 32
  · rw [if_pos c]; exact peek_yes h n c.1 c.2
  · rw [if_neg c]; exact peek_no n (by omega)
end Go.Proofs.Ytplabbnmongbaaa.Walks
