/- Contracts of field, text, the reference's text; the texts up to a 0. -/
import Derived.Test.YtggjdfnkmhlliaaDoorPutOct
namespace Go.Proofs.YtggjdfnkmhlliaaDoor.Walks
open Go Go.RowKit Go.Proofs.YtggjdfnkmhlliaaDoor.Aid Go.Proofs.YtggjdfnkmhlliaaDoor.Own Go.Proofs.YtggjdfnkmhlliaaDoorW.PrintWords

def isTx (x : UInt8) : Bool := decide (x ≠ 0)
def upTo0 (l : Str) : Str := l.takeWhile isTx
theorem index0_cons (b : UInt8) (l : Str) : Lib.index (b :: l) [0] = if b = 0 then 0 else if Lib.index l [0] = -1 then -1 else Lib.index l [0] + 1 := by
  rw [Lib.index]
  have e : ([0] : Str).isPrefixOf (b :: l) = decide (b = 0) := by
    by_cases h : b = 0
    · subst h; rfl
    · rw [decide_eq_false h]
      show ((0 : UInt8) == b && _) = false
      rw [beq_eq_false_iff_ne.mpr (fun e => h e.symm)]; rfl
  rw [e]
  simp only [decide_eq_true_eq, beq_iff_eq]
theorem cut_text (l : Str) : (Lib.cut l [0]).1 = upTo0 l := by
  have h : (Lib.index l [0] = -1 ∧ upTo0 l = l) ∨ (∃ i : Nat, Lib.index l [0] = i ∧ upTo0 l = l.take i) := by
    induction l with
    | nil => exact Or.inl ⟨rfl, rfl⟩
    | cons b l ih =>
      rw [index0_cons]
      by_cases hb : b = 0
      · rw [if_pos hb]
        exact Or.inr ⟨0, rfl, by rw [hb]; rfl⟩
      · rw [if_neg hb]
        have e : upTo0 (b :: l) = b :: upTo0 l := List.takeWhile_cons_of_pos (decide_eq_true hb)
        rcases ih with ⟨h1, h2⟩ | ⟨i, h1, h2⟩
        · rw [if_pos h1, e, h2]; exact Or.inl ⟨rfl, rfl⟩
        · rw [if_neg (by omega), e, h1, h2]; exact Or.inr ⟨i + 1, rfl, rfl⟩
  unfold Lib.cut
  rcases h with ⟨h1, h2⟩ | ⟨i, h1, h2⟩
  · rw [if_neg (by omega), h2]
  · rw [if_pos (by omega), h1, h2]; rfl
theorem RdU.of_cells {w : World} {ad : Addr} {l : Str} (h : ∀ j, j < l.length → w.cell? (ad.add j) = some (.int .u8 ((l.getD j 0).toNat : Int))) : RdU w (some ad) l := fun h0 =>
  ⟨ad, rfl, fun j hj => by
    rw [ints_len] at hj
    rw [h j hj, ints_get hj]⟩
theorem RdU.take {w : World} {A : Option Addr} {l : Str} (h : RdU w A l) (k : Nat) : RdU w A (l.take k) := by
  by_cases h0 : 0 < (l.take k).length
  · rw [List.length_take] at h0
    obtain ⟨ad, rfl, hc⟩ := h.cells (by omega)
    refine RdU.of_cells fun j hj => ?_
    rw [List.length_take] at hj
    rw [hc j (by omega), List.getD_eq_getElem?_getD, List.getD_eq_getElem?_getD, List.getElem?_take, if_pos (by omega)]
  · exact fun h1 => absurd (by rwa [ints_len] at h1) h0
theorem add_add (ad : Addr) (n j : Nat) : (ad.add n).add j = ad.add (n + j) := by
  unfold Addr.add
  by_cases h1 : n = 0
  · by_cases h2 : j = 0 <;> simp [h1, h2]
  · by_cases h2 : j = 0
    · simp [h1, h2]
    · simp [h1, h2]; omega
theorem RdU.drop {w : World} {ad : Addr} {l : Str} (h : RdU w (some ad) l) (n : Nat) : RdU w (some (ad.add n)) (l.drop n) := by
  by_cases h0 : 0 < (l.drop n).length
  · rw [List.length_drop] at h0
    obtain ⟨ad', e, hc⟩ := h.cells (by omega)
    injection e with e
    subst e
    refine RdU.of_cells fun j hj => ?_
    rw [List.length_drop] at hj
    rw [add_add, hc (n + j) (by omega), List.getD_eq_getElem?_getD, List.getD_eq_getElem?_getD, List.getElem?_drop]
  · exact fun h1 => absurd (by rwa [ints_len] at h1) h0
/-- The n bytes at a. -/
def sub (l : Str) (a n : Nat) : Str := (l.drop a).take n
theorem sub_len {l : Str} {a n : Nat} (h : a + n ≤ l.length) : (sub l a n).length = n := by unfold sub; rw [List.length_take, List.length_drop]; omega
theorem RdU.sub {w : World} {ad : Addr} {l : Str} (h : RdU w (some ad) l) (a n : Nat) : RdU w (some (ad.add a)) (sub l a n) := (RdU.drop h a).take n
set_option maxHeartbeats 4000000 in
theorem field_any {w : World} {ad : Addr} {L c : Nat} (a n : Nat) (hc : L ≤ c) (h : a + n ≤ L) (h2 : L ≤ 1000000) (h3 : 0 < n) : Calls Tryd.prog 23 #[.slice (some ad) L c, .int .i64 (a : Int), .int .i64 (n : Int)] w fun e w' => e = .returned (.slice (some (ad.add a)) n n) ∧ w' = w := by
  have b1 : (a : Int) + n ≤ 1000000 := by omega
  have b2 : (a : Int) + n ≤ (c : Int) := by omega
  have b3 : (a : Int) ≤ (a : Int) + n := by omega
  go_enter Tryd.func23, Tryd.ntmps23
  go_wp2_with fail
  go_ret
  exact ⟨by show Ending.returned (.slice (some (ad.add a)) (a + n - a) (a + n - a)) = _; rw [Nat.add_sub_cancel_left], rfl⟩
theorem cut_any (l : Str) (w : World) (hl : l.length ≤ 1000000) (hm : MaxLen w) : Calls Tryd.prog 33 #[.string (B l), .string ⟨#[0]⟩] w fun e w' => (∃ b c, e = .returned (.tuple #[.string (B (upTo0 l)), b, c])) ∧ ∃ n, w' = w.drewN n := by
  obtain ⟨m, hm⟩ := hm
  refine (sh_strings_Cut (B l) ⟨#[0]⟩ m w (by rw [B_size]; omega) hm).mono ?_
  rintro e w' ⟨rfl, n, rfl⟩
  rw [B_data, show (⟨#[0]⟩ : ByteArray).data.toList = [0] from rfl, cut_text]
  exact ⟨⟨_, _, rfl⟩, n, rfl⟩
def TextPost (l : Str) (w : World) (x : Ending) (w' : World) : Prop := x = .returned (.string (B (upTo0 l))) ∧ ∃ n, w' = w.drewN n
set_option maxHeartbeats 4000000 in
theorem text_any {w : World} {ad : Addr} {l : Str} {L c : Nat} (a n : Nat) (hL : l.length = L) (hc : L ≤ c) (h : a + n ≤ L) (h2 : L ≤ 1000000) (h3 : 0 < n) (hR : RdU w (some ad) l) (hm : MaxLen w) : Calls Tryd.prog 25 #[.slice (some ad) L c, .int .i64 (a : Int), .int .i64 (n : Int)] w (TextPost (sub l a n) w) := by
  have hS := str_u n (hR.sub a n) (sub_len (by omega))
  have HE := Lib.hid (show (sub l a n).length ≤ 1000000 by rw [sub_len (by omega)]; omega)
  have HC := Lib.hid hc
  have HH := Lib.hid h
  have H2 := Lib.hid h2
  have H3 := Lib.hid h3
  have HM := Lib.hid hm
  clear hc h h2 h3 hR hL hm
  go_enter Tryd.func25, Tryd.ntmps25
  go_wp2_with (first
    | (go_at_call 23; refine (field_any a n HC.out HH.out H2.out H3.out).mono ?_; rintro x w1 ⟨rfl, rfl⟩)
    | (go_at_call 33; refine (cut_any _ _ HE.out HM.out).mono ?_; rintro x w1 ⟨⟨b, d, rfl⟩, k, rfl⟩))
  go_ret
  exact ⟨rfl, k, rfl⟩
end Go.Proofs.YtggjdfnkmhlliaaDoor.Walks
