/- PathDots answers true. -/
import Derived.Test.YtkfcflnhffmmmaaDoorLawJoins
namespace Go.Proofs.YtkfcflnhffmmmaaDoor.Walks
open Go Go.RowKit Go.Proofs.YtkfcflnhffmmmaaDoor.Aid Go.Proofs.YtkfcflnhffmmmaaDoor.Pth Go.Proofs.YtkfcflnhffmmmaaDoor.OwnS Go.Proofs.YtkfcflnhffmmmaaDoorW.PrintWords Go.ChangeShapes Go.WideShapes

def flat (ps : List Str) : Str := (ps.map (· ++ [47])).flatten
theorem flat_append (a b : List Str) : flat (a ++ b) = flat a ++ flat b := by simp [flat]
theorem flat_one (p : Str) : flat [p] = p ++ [47] := by simp [flat]
theorem flat_cons (p : Str) (r : List Str) : flat (p :: r) = p ++ 47 :: flat r := by simp [flat]
theorem flat_parts : ∀ {ps : List Str}, (∀ p ∈ ps, (47 : UInt8) ∉ p) → partsL (flat ps) = ps ++ [[]]
  | [], _ => rfl
  | p :: r, h => by rw [flat_cons, parts_cat, parts_plain (h p List.mem_cons_self), flat_parts (fun q hq => h q (List.mem_cons_of_mem _ hq))]; rfl
theorem flat_len (ps : List Str) : (flat ps).length = total ps := by
  induction ps with
  | nil => rfl
  | cons p r ih => rw [flat_cons, List.length_append, List.length_cons, ih, total_cons]; omega
theorem total_append (a b : List Str) : total (a ++ b) = total a + total b := by unfold total; rw [List.map_append, List.sum_append]
theorem total_take (xs : List Str) (i : Nat) : total (xs.take i) ≤ total xs := by
  conv => rhs; rw [← List.take_append_drop i xs, total_append]
  omega
theorem total_drop (xs : List Str) (i : Nat) : total (xs.drop i) ≤ total xs := by
  conv => rhs; rw [← List.take_append_drop i xs, total_append]
  omega
/-- The pieces ahead of the i-th round. -/
def pcs (xs : List Str) (k : Nat) (mid : Str) (i : Nat) : List Str := if i ≤ k then xs.take i else xs.take k ++ mid :: (xs.take i).drop k
theorem pcs_len (xs : List Str) (k : Nat) (mid : Str) (i : Nat) : (flat (pcs xs k mid i)).length ≤ total xs + total xs + mid.length + 1 := by
  rw [flat_len]
  unfold pcs
  split
  · have := total_take xs i; omega
  · rw [total_append, total_cons]
    have h1 := total_take xs k
    have h2 := total_drop (xs.take i) k
    have h3 := total_take xs i
    omega
theorem pcs_step (xs : List Str) (k : Nat) (mid : Str) (i : Nat) (hk : k ≤ xs.length) (hi : i ≤ xs.length) :
    pcs xs k mid (i + 1) = pcs xs k mid i ++ ((if i = k then [mid] else []) ++ (if i < xs.length then [xs.getD i []] else [])) := by
  have ht : xs.take (i + 1) = xs.take i ++ (if i < xs.length then [xs.getD i []] else []) := by
    by_cases c : i < xs.length
    · rw [if_pos c]; exact take_snoc c rfl
    · rw [if_neg c, List.append_nil, List.take_of_length_le (by omega), List.take_of_length_le (by omega)]
  unfold pcs
  by_cases h1 : i + 1 ≤ k
  · rw [if_pos h1, if_pos (by omega), if_neg (by omega), ht]; rfl
  · rw [if_neg h1]
    by_cases h2 : i = k
    · subst h2
      rw [if_pos (Nat.le_refl _), if_pos rfl, ht, List.drop_left' (by rw [List.length_take]; omega)]
      simp
    · rw [if_neg (by omega), if_neg h2, ht, List.drop_append_of_le_length (by rw [List.length_take]; omega)]
      simp
theorem pcs_end (xs : List Str) (k : Nat) (mid : Str) (hk : k ≤ xs.length) : pcs xs k mid (xs.length + 1) = xs.take k ++ mid :: xs.drop k := by
  unfold pcs
  rw [if_neg (by omega), List.take_of_length_le (by omega : xs.length ≤ xs.length + 1)]
set_option maxHeartbeats 4000000 in
theorem dots_join {w : World} {A : Option Addr} {xs : List Str} {a b n c k : Nat} (mid : Str) (hn : xs.length = n) (hk : k ≤ n) (hm0 : mid ≠ []) (hm3 : mid.length ≤ 3) (ht : total xs ≤ 101) (ha : w.cell? ⟨a, 0, none⟩ = some (.slice A n c)) (hb : w.cell? ⟨b, 0, none⟩ = some (.int .i64 (k : Int))) (hR : RdS w A (xs.map B)) :
    Calls Tryd.prog 20 #[.string (B mid), .pointer (some ⟨a, 0, none⟩), .pointer (some ⟨b, 0, none⟩)] w fun e w' => e = .returned (.string (B (flat (xs.take k ++ mid :: xs.drop k)))) ∧ w' = w := by
  subst hn
  have HR := Lib.hid hR
  have HL := Lib.hid (show xs.length ≤ 101 by
    have h : ∀ ys : List Str, ys.length ≤ total ys := fun ys => by
      induction ys with
      | nil => exact Nat.zero_le _
      | cons x ys ih => rw [total_cons, List.length_cons]; omega
    have := h xs; omega)
  have HE := Lib.hid (pcs_end xs k mid hk)
  have HPl := Lib.hid (fun i => show (B (flat (pcs xs k mid i))).size ≤ 300 by rw [B_size]; have := pcs_len xs k mid i; omega)
  have HXl := Lib.hid (show ∀ i, i < xs.length → (xs.getD i []).length ≤ 101 from fun i hi => by
    have h : ∀ (ys : List Str) p, p ∈ ys → p.length ≤ total ys := fun ys => by
      induction ys with
      | nil => intro p hp; cases hp
      | cons x ys ih =>
        intro p hp
        rw [total_cons]
        rcases List.mem_cons.1 hp with rfl | hp
        · omega
        · have := ih p hp; omega
    have := h xs (xs.getD i []) (by rw [List.getD_eq_getElem?_getD, List.getElem?_eq_getElem hi]; exact List.getElem_mem hi)
    omega)
  have HK := Lib.hid hk
  obtain ⟨M, hM⟩ : ∃ M, B mid = M := ⟨_, rfl⟩
  have e1 : M.toList.isEmpty = false := by rw [← hM, isEmpty_B]; exact decide_eq_false hm0
  have e1' : (!M.toList.isEmpty) = true := by rw [e1]; rfl
  have HMs := Lib.hid (show M.size ≤ 3 by rw [← hM, B_size]; exact hm3)
  have HMm := Lib.hid hM
  rw [hM]
  clear hR hM hm0 hm3 ht hk
  go_enter Tryd.func20, Tryd.ntmps20
  go_wp2_with fail
  go_loopw [5, 6] (fun v5 v6 u => ∃ i : Nat, v6 = .int .i64 (i : Int) ∧ v5 = .string (B (flat (pcs xs k mid i))) ∧ i ≤ xs.length + 1 ∧ u = w) (fun _ i _ => xs.length + 1 - (intOf i).toNat)
  case atStart => exact ⟨0, rfl, by simp [pcs, flat, B], by omega, rfl⟩
  case round =>
    obtain ⟨i, rfl, rfl, hi, rfl⟩ := hrel
    have HJs := Lib.hid (HPl.out i)
    by_cases c1 : i ≤ xs.length
    · have d1 : decide ((i : Int) ≤ (xs.length : Int)) = true := decide_eq_true (by omega)
      have d1' : decide (i ≤ xs.length) = true := decide_eq_true c1
      have b1 : (i : Int) ≤ 101 := by have := HL.out; omega
      have HSt := Lib.hid (show flat (pcs xs k mid (i + 1)) = flat (pcs xs k mid i) ++ (flat (if i = k then [mid] else []) ++ flat (if i < xs.length then [xs.getD i []] else [])) by
        rw [pcs_step xs k mid i HK.out c1, flat_append, flat_append])
      obtain ⟨j, hj⟩ : ∃ j, flat (pcs xs k mid i) = j := ⟨_, rfl⟩
      rw [hj] at HSt HJs ⊢
      obtain ⟨J, hJ⟩ : ∃ J, B j = J := ⟨_, rfl⟩
      rw [hJ] at HJs ⊢
      have HJJ := Lib.hid hJ
      clear hj hJ
      have s1 : ¬ (J.size + M.size > 9223372036854775807) := by have := HJs.out; have := HMs.out; omega
      have s2 : ¬ (J.size + M.size + 1 > 9223372036854775807) := by have := HJs.out; have := HMs.out; omega
      by_cases c2 : i < xs.length
      · have d2 : decide ((i : Int) < (xs.length : Int)) = true := decide_eq_true (by omega)
        have d2' : decide (i < xs.length) = true := decide_eq_true c2
        have d3 : (i : Int) < (xs.length : Int) := by omega
        obtain ⟨ad, rfl, hcell⟩ := HR.out (by rw [List.length_map]; omega)
        have c0 := hcell i (by rw [List.length_map]; exact c2)
        rw [getD_map c2] at c0
        have hPs := HXl.out i c2
        obtain ⟨p, hp⟩ : ∃ p, xs.getD i [] = p := ⟨_, rfl⟩
        rw [hp] at c0 hPs HSt
        obtain ⟨P, hP⟩ : ∃ P, B p = P := ⟨_, rfl⟩
        rw [hP] at c0
        have HPs := Lib.hid (show P.size ≤ 101 by rw [← hP, B_size]; exact hPs)
        have HPp := Lib.hid hP
        rw [if_pos c2, flat_one] at HSt
        clear hcell hp hP hPs
        by_cases c3 : i = k
        · have k1 : ((i : Int) == (k : Int)) = true := beq_iff_eq.mpr (by omega)
          have k1' : (i == k) = true := beq_iff_eq.mpr c3
          have s3 : ¬ (J.size + M.size + 1 + P.size > 9223372036854775807) := by have := HJs.out; have := HMs.out; have := HPs.out; omega
          have s4 : ¬ (J.size + M.size + 1 + P.size + 1 > 9223372036854775807) := by have := HJs.out; have := HMs.out; have := HPs.out; omega
          have HV := Lib.hid (show J ++ M ++ ⟨#[47]⟩ ++ P ++ ⟨#[47]⟩ = B (flat (pcs xs k mid (i + 1))) by
            rw [HSt.out, if_pos c3, flat_one, ← HJJ.out, ← HMm.out, ← HPp.out, concat_B, concat_B, concat_B, concat_B, B_data, B_data, B_data, B_data, B_data, B_data]; congr 1; simp)
          clear c3
          go_wp2_with fail
          exact ⟨⟨i + 1, by simp, by rw [← HV.out], by omega, by trivial⟩, by simp [intOf]; omega⟩
        · have k1 : ((i : Int) == (k : Int)) = false := beq_eq_false_iff_ne.mpr (by omega)
          have k1' : (i == k) = false := beq_eq_false_iff_ne.mpr c3
          have s3 : ¬ (J.size + P.size > 9223372036854775807) := by have := HJs.out; have := HPs.out; omega
          have s4 : ¬ (J.size + P.size + 1 > 9223372036854775807) := by have := HJs.out; have := HPs.out; omega
          have HV := Lib.hid (show J ++ P ++ ⟨#[47]⟩ = B (flat (pcs xs k mid (i + 1))) by
            rw [HSt.out, if_neg c3, ← HJJ.out, ← HPp.out, concat_B, concat_B, B_data, B_data, B_data]; congr 1; simp [flat])
          clear c3
          go_wp2_with fail
          exact ⟨⟨i + 1, by simp, by rw [← HV.out], by omega, by trivial⟩, by simp [intOf]; omega⟩
      · have d2 : decide ((i : Int) < (xs.length : Int)) = false := decide_eq_false (by omega)
        have d2' : decide (i < xs.length) = false := decide_eq_false c2
        rw [if_neg c2] at HSt
        by_cases c3 : i = k
        · have k1 : ((i : Int) == (k : Int)) = true := beq_iff_eq.mpr (by omega)
          have k1' : (i == k) = true := beq_iff_eq.mpr c3
          have HV := Lib.hid (show J ++ M ++ ⟨#[47]⟩ = B (flat (pcs xs k mid (i + 1))) by
            rw [HSt.out, if_pos c3, flat_one, ← HJJ.out, ← HMm.out, concat_B, concat_B, B_data, B_data, B_data]; congr 1; simp [flat])
          clear c3 c2
          go_wp2_with fail
          exact ⟨⟨i + 1, by simp, by rw [← HV.out], by omega, by trivial⟩, by simp [intOf]; omega⟩
        · have k1 : ((i : Int) == (k : Int)) = false := beq_eq_false_iff_ne.mpr (by omega)
          have k1' : (i == k) = false := beq_eq_false_iff_ne.mpr c3
          have HV := Lib.hid (show J = B (flat (pcs xs k mid (i + 1))) by
            rw [HSt.out, if_neg c3, ← HJJ.out]; congr 1; simp [flat])
          clear c3 c2
          go_wp2_with fail
          exact ⟨⟨i + 1, by simp, by rw [← HV.out], by omega, by trivial⟩, by simp [intOf]; omega⟩
    · have d1 : decide ((i : Int) ≤ (xs.length : Int)) = false := decide_eq_false (by omega)
      have d1' : decide (i ≤ xs.length) = false := decide_eq_false c1
      obtain rfl : i = xs.length + 1 := by omega
      rw [HE.out]
      go_wp2_with fail
      go_ret
      exact ⟨rfl, rfl⟩
end Go.Proofs.YtkfcflnhffmmmaaDoor.Walks
