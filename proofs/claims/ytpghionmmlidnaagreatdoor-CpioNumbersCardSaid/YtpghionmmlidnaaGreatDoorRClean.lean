/- Contract of the reference's Clean. -/
import Derived.Test.YtpghionmmlidnaaGreatDoorRParts
namespace Go.Proofs.YtpghionmmlidnaaGreatDoor.Walks
open Go Go.RowKit Go.Proofs.YtpghionmmlidnaaGreatDoor.Aid Go.Proofs.YtpghionmmlidnaaGreatDoor.Pth Go.Proofs.YtpghionmmlidnaaGreatDoor.OwnS Go.Proofs.YtpghionmmlidnaaGreatDoorW.PrintWords

theorem joinL_nil : joinL [] = [] := rfl
theorem joinL_snoc (xs : List Str) (p : Str) : joinL (xs ++ [p]) = if xs = [] then p else joinL xs ++ [47] ++ p := by
  cases xs with
  | nil => rw [if_pos rfl]; exact Lib.join_one p _
  | cons x xs =>
    rw [if_neg (by simp)]
    unfold joinL
    rw [List.cons_append, Lib.join_cons, Lib.join_cons]
    simp [Lib.joinTail]
theorem joinL_empty {xs : List Str} (h : ∀ p ∈ xs, p ≠ []) : joinL xs = [] ↔ xs = [] := by
  cases xs with
  | nil => simp [joinL_nil]
  | cons x xs =>
    constructor
    · intro e
      unfold joinL at e
      rw [Lib.join_cons] at e
      have := List.append_eq_nil_iff.1 e
      exact absurd this.1 (h x List.mem_cons_self)
    · intro e; cases e
theorem keep_ne {xs : List Str} : ∀ p ∈ xs.filter Keep, p ≠ [] := fun p hp => by
  have := (List.mem_filter.1 hp).2
  unfold Keep at this
  exact (of_decide_eq_true this).1
theorem keep_take (ps : List Str) (l : Str) (hl : partsL l = ps) (i : Nat) : (joinL ((ps.take i).filter Keep)).length ≤ l.length := by
  have h1 := total_filter Keep (ps.take i)
  have h2 : total (ps.take i) ≤ total ps := by
    conv => rhs; rw [← List.take_append_drop i ps]
    unfold total
    rw [List.map_append, List.sum_append]; omega
  rw [← hl, total_parts] at h2
  rw [hl] at h2
  cases hk : (ps.take i).filter Keep with
  | nil => exact Nat.zero_le _
  | cons x xs =>
    rw [hk] at h1
    have := join_len x xs
    omega
theorem concat_B (S T : ByteArray) : S ++ T = B (S.data.toList ++ T.data.toList) := by
  have h : (S ++ T).data.toList = S.data.toList ++ T.data.toList := by rw [ByteArray.data_append, Array.toList_append]
  rw [← h, data_B]
set_option maxRecDepth 100000 in
set_option maxHeartbeats 8000000 in
theorem rclean_any (S : ByteArray) (w : World) (hs : S.size ≤ 500000) : Calls Tryz.prog 81 #[.string S] w (CleanPost S w) := by
  have HS := Lib.hid hs
  clear hs
  cases hl : S.data.toList with
  | nil =>
    have HB := Lib.hid (clean_bad (S := S) (by unfold Bad; rw [hl]; rfl))
    have e1 : S.toList.isEmpty = true := by rw [Lib.toList_data, hl]; rfl
    clear hl
    go_enter Tryz.func81, Tryz.ntmps81
    go_wp2_with fail
    go_ret2
    exact ⟨by rw [HB.out.1, HB.out.2]; rfl, Only.refl _ _⟩
  | cons ch r =>
    have e1 : S.toList.isEmpty = false := by rw [Lib.toList_data, hl]; rfl
    obtain ⟨h0, hx⟩ := head_at hl
    by_cases h47 : ch = 47
    · have HB := Lib.hid (clean_bad (S := S) (by unfold Bad; rw [hl, h47]; rfl))
      have e2 : ((ch.toNat : Int) == 47) = true := by rw [h47]; rfl
      clear hl h47
      go_enter Tryz.func81, Tryz.ntmps81
      go_wp2_with fail
      go_ret2
      exact ⟨by rw [HB.out.1, HB.out.2]; rfl, Only.refl _ _⟩
    have e2 : ((ch.toNat : Int) == 47) = false := beq_eq_false_iff_ne.mpr (fun e => h47 (UInt8.toNat.inj (by exact_mod_cast e)))
    have HH := Lib.hid (show S.data.toList ≠ [] ∧ S.data.toList.head? ≠ some 47 by rw [hl]; exact ⟨by simp, by simpa using h47⟩)
    have b0 : (S.size : Int) ≤ 500000 := by have := HS.out; omega
    clear hl h47
    go_enter Tryz.func81, Tryz.ntmps81
    go_wp2_with fail
    go_loopw [4] (fun v4 u => ∃ i : Nat, v4 = .int .i64 (i : Int) ∧ i ≤ S.size ∧ Hid (∀ j, j < i → S.data.toList.getD j 0 ≠ 0) ∧ u = w) (fun i _ => S.size - (intOf i).toNat)
    case atStart => exact ⟨0, rfl, by omega, Lib.hid (fun j hj => absurd hj (by omega)), rfl⟩
    case round =>
      obtain ⟨i, rfl, hi, HN, rfl⟩ := hrel
      by_cases c1 : i < S.size
      · have d1 : decide ((i : Int) < (S.size : Int)) = true := decide_eq_true (by omega)
        have d1' : decide (i < S.size) = true := decide_eq_true c1
        have q4 : (i : Int) < (S.size : Int) := by omega
        have hxi := index_at c1
        obtain ⟨x, hxx⟩ : ∃ x, S.data.toList.getD i 0 = x := ⟨_, rfl⟩
        rw [hxx] at hxi
        by_cases hz : x = 0
        · have e3 : ((x.toNat : Int) == 0) = true := by rw [hz]; rfl
          have HB := Lib.hid (clean_bad (S := S) (by
            unfold Bad
            refine decide_eq_true (Or.inr (Or.inr ?_))
            rw [← hz, ← hxx, List.getD_eq_getElem?_getD, List.getElem?_eq_getElem (show i < S.data.toList.length from c1)]
            exact List.getElem_mem _))
          clear hz hxx
          go_wp2_with fail
          go_ret2
          exact ⟨by rw [HB.out.1, HB.out.2]; rfl, Only.refl _ _⟩
        · have e3 : ((x.toNat : Int) == 0) = false := beq_eq_false_iff_ne.mpr (fun e => hz (UInt8.toNat.inj (by exact_mod_cast e)))
          have HN2 := Lib.hid (show ∀ j, j < i + 1 → S.data.toList.getD j 0 ≠ 0 from fun j hj => by
            by_cases e : j = i
            · rw [e, hxx]; exact hz
            · exact HN.out j (by omega))
          clear hz hxx
          go_wp2_with fail
          exact ⟨⟨i + 1, by simp, by omega, HN2, by trivial⟩, by simp [intOf]; omega⟩
      · have d1 : decide ((i : Int) < (S.size : Int)) = false := decide_eq_false (by omega)
        have d1' : decide (i < S.size) = false := decide_eq_false c1
        have HBad := Lib.hid (show Bad S.data.toList = false from decide_eq_false (by
          rintro (h | h | h)
          · exact HH.out.1 h
          · exact HH.out.2 h
          · obtain ⟨j, hj, e⟩ := List.getElem_of_mem h
            have hj' : j < S.size := hj
            have := HN.out j (by omega)
            rw [List.getD_eq_getElem?_getD, List.getElem?_eq_getElem hj, Option.getD_some, e] at this
            exact this rfl))
        obtain ⟨ps, hps⟩ : ∃ ps, partsL S.data.toList = ps := ⟨_, rfl⟩
        have HPS := Lib.hid hps
        have HLen := Lib.hid (show ps.length ≤ 500001 by rw [← hps, ← split_len]; have := Lib.countB_le ⟨#[47]⟩ (by decide) _ S (Nat.le_refl _); have := HS.out; omega)
        have HKT := Lib.hid (keep_take ps _ hps)
        clear hps HN
        go_wp2_with fail
        refine (rparts_any S _ HS.out).mono ?_
        rintro x w1 ⟨A, c, rfl, hc, hR, h1⟩
        rw [HPS.out] at hc hR ⊢
        have HR := Lib.hid hR
        have H1 := Lib.hid h1
        clear hR h1
        go_wp2_with fail
        go_loopw [5, 7] (fun v5 v7 u => ∃ i : Nat, v7 = .int .i64 (i : Int) ∧ v5 = .string (B (joinL ((ps.take i).filter Keep))) ∧ i ≤ ps.length ∧ Hid (([46, 46] : Str) ∉ ps.take i) ∧ u = w1) (fun _ i _ => ps.length - (intOf i).toNat)
        case atStart => exact ⟨0, rfl, rfl, by omega, Lib.hid (by simp), rfl⟩
        case round =>
          obtain ⟨i, rfl, rfl, hi, HN, rfl⟩ := hrel
          by_cases c1 : i < ps.length
          · have d1 : decide ((i : Int) < (ps.length : Int)) = true := decide_eq_true (by omega)
            have d1' : decide (i < ps.length) = true := decide_eq_true c1
            have d2 : (i : Int) < (ps.length : Int) := by omega
            have b1 : (i : Int) ≤ 500001 := by have := HLen.out; omega
            obtain ⟨ad, rfl, hcell⟩ := HR.out (by rw [List.length_map]; omega)
            have c0 := hcell i (by rw [List.length_map]; exact c1)
            rw [getD_map c1] at c0
            obtain ⟨p, hp⟩ : ∃ p, ps.getD i [] = p := ⟨_, rfl⟩
            rw [hp] at c0
            have HT := Lib.hid (take_snoc c1 hp)
            obtain ⟨P, hP⟩ : ∃ P, B p = P := ⟨_, rfl⟩
            rw [hP] at c0
            have e0 : P.toList.isEmpty = decide (p = []) := by rw [← hP, isEmpty_B]
            have e5 : (P.toList == ([46] : List UInt8)) = decide (p = [46]) := by rw [← hP, toList_B, beq_decide]
            have e6 : (P.toList == ([46, 46] : List UInt8)) = decide (p = [46, 46]) := by rw [← hP, toList_B, beq_decide]
            have HJl := Lib.hid (show (B (joinL ((ps.take i).filter Keep))).size ≤ 500000 by
              rw [B_size]; have := HKT.out i; have e : S.data.toList.length = S.size := rfl; have := HS.out; omega)
            clear hcell
            by_cases k3 : p = [46, 46]
            · rw [decide_eq_true k3] at e6
              have HD := Lib.hid (clean_dots (S := S) (by rw [HPS.out, ← k3, ← hp, List.getD_eq_getElem?_getD, List.getElem?_eq_getElem c1]; exact List.getElem_mem c1))
              clear hP hp k3 e0 e5
              go_wp2_with fail
              go_ret2
              exact ⟨by rw [HD.out.1, HD.out.2]; rfl, H1.out⟩
            rw [decide_eq_false k3] at e6
            by_cases k1 : p = []
            · rw [decide_eq_true k1] at e0
              have HJ := Lib.hid (show joinL ((ps.take (i + 1)).filter Keep) = joinL ((ps.take i).filter Keep) by rw [HT.out, List.filter_append, k1]; simp [Keep])
              have HN3 := Lib.hid (show ([46, 46] : Str) ∉ ps.take (i + 1) by rw [HT.out, k1]; simpa using HN.out)
              clear hP hp k1 k3 e5
              go_wp2_with fail
              exact ⟨⟨i + 1, by simp, by rw [HJ.out], by omega, HN3, by trivial⟩, by simp [intOf]; omega⟩
            rw [decide_eq_false k1] at e0
            by_cases k2 : p = [46]
            · rw [decide_eq_true k2] at e5
              have HJ := Lib.hid (show joinL ((ps.take (i + 1)).filter Keep) = joinL ((ps.take i).filter Keep) by rw [HT.out, List.filter_append, k2]; simp [Keep])
              have HN3 := Lib.hid (show ([46, 46] : Str) ∉ ps.take (i + 1) by rw [HT.out, k2]; simpa using HN.out)
              clear hP hp k1 k2 k3
              go_wp2_with fail
              exact ⟨⟨i + 1, by simp, by rw [HJ.out], by omega, HN3, by trivial⟩, by simp [intOf]; omega⟩
            rw [decide_eq_false k2] at e5
            have HN3 := Lib.hid (show ([46, 46] : Str) ∉ ps.take (i + 1) by rw [HT.out]; simp; exact ⟨HN.out, fun e => k3 e.symm⟩)
            have HJ := Lib.hid (show joinL ((ps.take (i + 1)).filter Keep) = if (ps.take i).filter Keep = [] then p else joinL ((ps.take i).filter Keep) ++ [47] ++ p by
              rw [HT.out, List.filter_append, show [p].filter Keep = [p] by simp [Keep, k1, k2], joinL_snoc])
            have HPl := Lib.hid (show P.size ≤ 500000 by
              have h := HKT.out (i + 1)
              rw [HJ.out] at h
              rw [← hP, B_size]
              have e : S.data.toList.length = S.size := rfl
              have := HS.out
              split at h
              · omega
              · rw [List.length_append] at h; omega)
            have HPp := Lib.hid hP
            have HJ0 := Lib.hid (joinL_empty (xs := (ps.take i).filter Keep) keep_ne)
            obtain ⟨j, hj⟩ : ∃ j, joinL ((ps.take i).filter Keep) = j := ⟨_, rfl⟩
            rw [hj] at HJ HJ0 HJl ⊢
            obtain ⟨J, hJ⟩ : ∃ J, B j = J := ⟨_, rfl⟩
            have z1 : J.toList.isEmpty = decide (j = []) := by rw [← hJ, isEmpty_B]
            rw [hJ] at HJl ⊢
            have HJJ := Lib.hid hJ
            clear hP hp k1 k2 k3 hj hJ
            by_cases m1 : j = []
            · rw [decide_eq_true m1] at z1
              have z1' : (!J.toList.isEmpty) = false := by rw [z1]; rfl
              have HJ2 := Lib.hid (show joinL ((ps.take (i + 1)).filter Keep) = p by rw [HJ.out, if_pos (HJ0.out.1 m1)])
              have s1 : ¬ (J.size + P.size > 9223372036854775807) := by have := HJl.out; have := HPl.out; omega
              have HC := Lib.hid (show J ++ P = B p by rw [← HJJ.out, m1, concat_B, B_data, ← HPp.out, B_data]; rfl)
              clear m1
              go_wp2_with fail
              exact ⟨⟨i + 1, by simp, by rw [HJ2.out, HC.out], by omega, HN3, by trivial⟩, by simp [intOf]; omega⟩
            · rw [decide_eq_false m1] at z1
              have z1' : (!J.toList.isEmpty) = true := by rw [z1]; rfl
              have HJ2 := Lib.hid (show joinL ((ps.take (i + 1)).filter Keep) = j ++ [47] ++ p by rw [HJ.out, if_neg (fun e => m1 (HJ0.out.2 e))])
              have s1 : ¬ (J.size + 1 > 9223372036854775807) := by have := HJl.out; omega
              have s2 : ¬ (J.size + 1 + P.size > 9223372036854775807) := by have := HJl.out; have := HPl.out; omega
              have HC := Lib.hid (show J ++ ⟨#[47]⟩ ++ P = B (j ++ [47] ++ p) by rw [← HJJ.out, ← HPp.out, concat_B, concat_B, B_data, B_data, B_data])
              clear m1
              go_wp2_with fail
              exact ⟨⟨i + 1, by simp, by rw [HJ2.out, ← HC.out], by omega, HN3, by trivial⟩, by simp [intOf]; omega⟩
          · have d1 : decide ((i : Int) < (ps.length : Int)) = false := decide_eq_false (by omega)
            have d1' : decide (i < ps.length) = false := decide_eq_false c1
            obtain rfl : i = ps.length := by omega
            have HK := Lib.hid (show cleanL S.data.toList = if joinL (keepL S.data.toList) = [] ∨ 4096 < (joinL (keepL S.data.toList)).length then none else some (joinL (keepL S.data.toList)) by
              unfold cleanL
              rw [HBad.out, if_neg (by decide), if_neg (by rw [HPS.out]; have := HN.out; rwa [List.take_length] at this)])
            have HJe := Lib.hid (show joinL ((ps.take ps.length).filter Keep) = joinL (keepL S.data.toList) by unfold keepL; rw [List.take_length, HPS.out])
            rw [HJe.out]
            obtain ⟨j, hj⟩ : ∃ j, joinL (keepL S.data.toList) = j := ⟨_, rfl⟩
            rw [hj] at HK ⊢
            obtain ⟨J, hJ⟩ : ∃ J, B j = J := ⟨_, rfl⟩
            rw [hJ]
            have z1 : J.toList.isEmpty = decide (j = []) := by rw [← hJ, isEmpty_B]
            have z2 : J.size = j.length := by rw [← hJ, B_size]
            by_cases m1 : j = []
            · rw [decide_eq_true m1] at z1
              have HC := Lib.hid (clean_none (S := S) (by rw [HK.out, if_pos (Or.inl m1)]))
              clear hj hJ m1 z2
              go_wp2_with fail
              go_ret2
              exact ⟨by rw [HC.out.1, HC.out.2]; rfl, H1.out⟩
            rw [decide_eq_false m1] at z1
            by_cases m2 : 4096 < j.length
            · have z3 : decide ((J.size : Int) > 4096) = true := decide_eq_true (by omega)
              have z3' : decide (J.size > 4096) = true := decide_eq_true (by omega)
              have HC := Lib.hid (clean_none (S := S) (by rw [HK.out, if_pos (Or.inr m2)]))
              clear hj hJ m1 z2 m2
              go_wp2_with fail
              go_ret2
              exact ⟨by rw [HC.out.1, HC.out.2]; rfl, H1.out⟩
            · have z3 : decide ((J.size : Int) > 4096) = false := decide_eq_false (by omega)
              have z3' : decide (J.size > 4096) = false := decide_eq_false (by omega)
              have HC := Lib.hid (clean_some (S := S) (c := j) (by rw [HK.out, if_neg (by simp [m1, m2])]))
              have HJJ := Lib.hid hJ
              clear hj hJ m1 z2 m2
              go_wp2_with fail
              go_ret2
              exact ⟨by rw [HC.out.1, HC.out.2, HJJ.out]; rfl, H1.out⟩
end Go.Proofs.YtpghionmmlidnaaGreatDoor.Walks
