/- Contracts of told, first. -/
import Derived.Test.YtggjdfnkmhlliaaDoorBack2
import Derived.Test.YtggjdfnkmhlliaaDoorEqH
import Derived.Test.YtggjdfnkmhlliaaDoorRRead
namespace Go.Proofs.YtggjdfnkmhlliaaDoor.Walks
open Go Go.RowKit Go.Proofs.YtggjdfnkmhlliaaDoor.Aid Go.Proofs.YtggjdfnkmhlliaaDoor.Own Go.Proofs.YtggjdfnkmhlliaaDoorW.PrintWords

def hA : Hdr := ⟨[97], [], [], 420, 0, 0, 0, 0, 48, [], []⟩
theorem hA_ok : HOk hA := ⟨by decide, by decide, by decide, by decide, by decide, by decide, by decide, by decide, by decide, by decide⟩
theorem hA_fit : fitAll hA = true := by decide
theorem hA_num : numAll hA = true := by decide
theorem hA_put : putL hA = (bodyP hA, 0) := by unfold putL; rw [if_pos hA_fit, if_pos hA_num]
theorem hA_read : readL (bodyP hA) = (hA, 0) := read_put hA_fit hA_num
theorem hA_len : (bodyP hA).length = 512 := (body_is hA_fit hA_num).len
theorem read_all {w : World} {A : Option Addr} {l : Str} {n c : Nat} (hn : l.length = n) (hc : n ≤ c) (h2 : n ≤ 1000000) (hR : RdU w A l) (hm : MaxLen w) : Calls Tryd.prog 11 #[.slice A n c] w (ReadPost (readL l) w) := by
  by_cases h : n < 512
  · exact read_short hn h
  · obtain ⟨ad, e, _⟩ := hR.cells (by omega)
    subst e
    exact read_any hn (by omega) hc h2 hR hm
theorem rread_all {w : World} {A : Option Addr} {l : Str} {n c : Nat} (hn : l.length = n) (hc : n ≤ c) (h2 : n ≤ 1000000) (hR : RdU w A l) : Calls Tryd.prog 12 #[.slice A n c] w (ReadPost (readL l) w) := by
  by_cases h : n < 512
  · exact rread_short hn h
  · obtain ⟨ad, e, _⟩ := hR.cells (by omega)
    subst e
    exact rread_any hn (by omega) hc h2 hR
theorem zeros_sum : sumOf (List.replicate 512 0) = 256 := by
  have h : ∀ k, sumTo (List.replicate 512 0) k = if k ≤ 148 then 0 else if k ≤ 156 then 32 * (k - 148) else 256 := fun k => by
    induction k with
    | zero => rfl
    | succ k ih =>
      rw [sumTo, ih]
      have e : ((List.replicate 512 (0 : UInt8)).getD k 0).toNat = 0 := by
        rw [List.getD_eq_getElem?_getD, List.getElem?_replicate]
        split <;> rfl
      unfold sumAt
      rw [e]
      by_cases a1 : k < 148
      · rw [if_pos (show k ≤ 148 by omega), if_neg (show ¬ (148 ≤ k ∧ k < 156) by omega), if_pos (show k + 1 ≤ 148 by omega)]
      · by_cases a2 : k < 156
        · by_cases a3 : k = 148
          · subst a3; rfl
          · rw [if_neg (show ¬ k ≤ 148 by omega), if_pos (show k ≤ 156 by omega), if_pos (show 148 ≤ k ∧ k < 156 by omega), if_neg (show ¬ k + 1 ≤ 148 by omega), if_pos (show k + 1 ≤ 156 by omega)]; omega
        · rw [if_neg (show ¬ k ≤ 148 by omega), if_neg (show ¬ (148 ≤ k ∧ k < 156) by omega), if_neg (show ¬ k + 1 ≤ 148 by omega), if_neg (show ¬ k + 1 ≤ 156 by omega)]
          by_cases a4 : k ≤ 156
          · rw [if_pos a4]; omega
          · rw [if_neg a4]
  unfold sumOf
  rw [if_pos List.length_replicate, h]; rfl
theorem zeros_zero : zeroOf (List.replicate 512 0) = true := by
  unfold zeroOf
  rw [decide_eq_true (List.length_replicate), noughts_yes (fun j _ => by
    rw [List.getD_eq_getElem?_getD, List.getElem?_replicate]
    split <;> rfl)]; rfl
set_option maxRecDepth 100000 in
set_option maxHeartbeats 4000000 in
theorem told_any (w : World) (hm : MaxLen w) : Calls Tryd.prog 8 #[] w (BoolPost true w) := by
  have HM := Lib.hid hm
  clear hm
  go_enter Tryd.func8, Tryd.ntmps8
  go_wp2_with fail
  refine (put_any (H := hA) w hA_ok).mono ?_
  rintro x w1 ⟨A, n, c, rfl, h1, h2, h3, h4⟩
  rw [hA_put] at h1 h3 ⊢
  have h9 : n = 512 := h1.symm.trans hA_len
  subst h9
  have HC := Lib.hid h2
  have HR := Lib.hid h3
  have HO := Lib.hid h4
  clear h1 h2 h3 h4
  go_wp2_with fail
  refine (read_all hA_len HC.out (by decide) HR.out (HM.out.only HO.out)).mono ?_
  rintro x w2 ⟨rfl, ho2⟩
  rw [hA_read]
  have HO2 := Lib.hid (HO.out.trans' ho2)
  clear ho2
  go_wp2_with (first | ((with_reducible refine gate_store 24 rfl ?_); refine store_new (H0 := hdr0) rfl hA _ _ rfl rfl rfl ?_; intro w3 hb3 ho3))
  refine (read_short (l := []) rfl (by decide)).mono ?_
  rintro x w4 ⟨rfl, ho4⟩
  rw [show readL [] = (hdr0, 5) from rfl]
  have HB := Lib.hid (ho4.keeps hb3 id)
  have HO4 := Lib.hid ((HO2.out.trans' ho3).trans' ho4)
  have HNE := Lib.hid (show w2.heap.size < w4.heap.size from Only.heap_lt HB.out)
  obtain ⟨g3, hg3⟩ : ∃ g3, w2.heap.size = g3 := ⟨_, rfl⟩
  rw [hg3] at HB HNE ⊢
  clear hb3 ho3 ho4 hg3
  go_wp2_with (first
    | ((with_reducible refine gate_store 24 rfl ?_); refine store_new (H0 := hdr0) rfl hdr0 _ _ rfl rfl rfl ?_; intro w5 hb5 ho5)
    | (with_reducible refine gate 33 rfl ?_
       refine gate_guard (by rfl) ?_; dsimp only
       refine load_hdr rfl _ rfl rfl (ho5.keeps HB.out id) ?_)
    | (with_reducible refine gate 35 rfl ?_
       refine gate_guard (by rfl) ?_; dsimp only
       refine op_eql24 rfl _ _ rfl hA hA rfl rfl ?_
       rw [decide_eq_true (show hA = hA from rfl)])
    | (with_reducible refine gate 42 rfl ?_
       refine gate_guard (by rfl) ?_; dsimp only
       refine own_make (base := w5.heap.size) (w0 := w5) rfl rfl (.const (.int .i64 512)) rfl 512 rfl (Below.refl _ _) (Nat.le_refl _) (by decide) ?_
       intro v6 w6 hV6 hB6
       obtain ⟨g6, cap6, rfl, hg6⟩ := hV6.form (by rw [List.length_replicate]; decide)
       have HV6 := Lib.hid (show RdU w6 (some ⟨g6, 0, none⟩) (List.replicate 512 0) from own_rdu (base := w5.heap.size) (n := 512) (c := cap6) (by rw [replicate_ints]; rw [List.length_replicate] at hV6; exact hV6))
       have HB6 := Lib.hid hB6
       clear hV6 hB6 hg6)
    | (with_reducible refine gate 47 rfl ?_
       refine gate_guard (by rfl) ?_; dsimp only
       refine own_make (base := w6.heap.size) (w0 := w6) rfl rfl (.const (.int .i64 512)) rfl 512 rfl (Below.refl _ _) (Nat.le_refl _) (by decide) ?_
       intro v7 w7 hV7 hB7
       obtain ⟨g7, cap7, rfl, hg7⟩ := hV7.form (by rw [List.length_replicate]; decide)
       have HV7 := Lib.hid (show Own w6.heap.size w7 (.slice (some ⟨g7, 0, none⟩) 512 cap7) (ints (List.replicate 512 0)) by rw [replicate_ints]; rw [List.length_replicate] at hV7; exact hV7)
       have HB7 := Lib.hid hB7
       clear hV7 hB7 hg7)
    | (go_at_call 13; refine (sum_any (l := List.replicate 512 0) List.length_replicate HV6.out).mono ?_; rintro x w6 ⟨rfl, rfl⟩; rw [zeros_sum])
    | (go_at_call 14; refine (zero_any (l := List.replicate 512 0) List.length_replicate (own_capn HV7.out).2 (by decide) (own_rdu HV7.out)).mono ?_; rintro x w9 ⟨rfl, ho9⟩; rw [zeros_zero]))
  go_ret
  exact ⟨rfl, (((HO4.out.trans' ho5).trans' (Only.of_below HB6.out _)).trans' (Only.of_below HB7.out _)).trans' ho9⟩
def firstL (l : Str) : Bool := match findP l with
  | none => false
  | some i => decide (1 ≤ i ∧ i ≤ 155)
theorem firstL_at {l : Str} {i : Nat} (hi : i < l.length) (hk : okAt l i = true) (hn : ∀ j, j < i → okAt l j = false) : firstL l = decide (1 ≤ i ∧ i ≤ 155) := by
  have e : findP l = some i := List.find?_range_eq_some.2 ⟨hk, List.mem_range.2 hi, fun j hj => by rw [hn j hj]; rfl⟩
  unfold firstL
  rw [e]
theorem firstL_none {l : Str} (hn : ∀ j, j < l.length → okAt l j = false) : firstL l = false := by
  have e : findP l = none := List.find?_eq_none.2 (fun j hj => by rw [hn j (List.mem_range.1 hj)]; exact Bool.false_ne_true)
  unfold firstL
  rw [e]
set_option maxHeartbeats 4000000 in
theorem first_any (l : Str) (w : World) (hl : l.length ≤ 1000) : Calls Tryd.prog 21 #[.string (B l)] w fun x w' => x = .returned (.bool (firstL l)) ∧ w = w' := by
  obtain ⟨S, hS⟩ : ∃ S, B l = S := ⟨_, rfl⟩
  have HSS := Lib.hid (show S.size = l.length by rw [← hS, B_size])
  have HSd := Lib.hid (show S.data.toList = l by rw [← hS, B_data])
  have b1 : S.size ≤ 1000 := by rw [HSS.out]; exact hl
  rw [hS]
  clear hS hl
  go_enter Tryd.func21, Tryd.ntmps21
  go_wp2_with fail
  go_loopw [3] (fun v3 u => ∃ i : Nat, v3 = .int .i64 (i : Int) ∧ i ≤ S.size ∧ Hid (∀ j, j < i → okAt l j = false) ∧ w = u) (fun i _ => S.size - (intOf i).toNat)
  case atStart => exact ⟨0, rfl, by omega, Lib.hid (fun j hj => absurd hj (by omega)), rfl⟩
  case round =>
    obtain ⟨i, rfl, hi, HNO, rfl⟩ := hrel
    by_cases c2 : i < S.size
    · have e1 : decide ((i : Int) < (S.size : Int)) = true := decide_eq_true (by omega)
      have e2 : decide (i < S.size) = true := decide_eq_true c2
      have hx := index_at c2
      rw [HSd.out] at hx
      obtain ⟨x, hxx⟩ : ∃ x, l.getD i 0 = x := ⟨_, rfl⟩
      rw [hxx] at hx
      have HX := Lib.hid hxx
      clear hxx
      have t1 := byte_eq (x := x) (y := 47) 47 rfl
      have HST := Lib.hid (show okAt l i = false → ∀ j, j < i + 1 → okAt l j = false from fun h j hj => by
        by_cases e : j = i
        · rw [e]; exact h
        · exact HNO.out j (by omega))
      by_cases c3 : x = 47
      · rw [decide_eq_true c3] at t1
        have HX2 := Lib.hid (HX.out.trans c3)
        clear c3
        by_cases c4 : 101 < S.size - i
        · have e3 : decide ((S.size : Int) - (i : Int) ≤ 101) = false := decide_eq_false (by omega)
          have HN2 := Lib.hid (HST.out (okAt_long (by have := HSS.out; omega)))
          clear c4 HST
          go_wp2_with fail
          exact ⟨⟨i + 1, by simp, by omega, HN2, by trivial⟩, by simp [intOf]; omega⟩
        · have e3 : decide ((S.size : Int) - (i : Int) ≤ 101) = true := decide_eq_true (by omega)
          by_cases c9 : S.size - i < 2
          · have e4 : decide ((S.size : Int) - (i : Int) ≥ 2) = false := decide_eq_false (by omega)
            have HN2 := Lib.hid (HST.out (okAt_last (by have := HSS.out; omega)))
            clear c4 c9 HST
            go_wp2_with fail
            exact ⟨⟨i + 1, by simp, by omega, HN2, by trivial⟩, by simp [intOf]; omega⟩
          · have e4 : decide ((S.size : Int) - (i : Int) ≥ 2) = true := decide_eq_true (by omega)
            have HPL := Lib.hid (firstL_at (l := l) (i := i) (by have := HSS.out; omega) (okAt_yes HX2.out (by have := HSS.out; omega) (by have := HSS.out; omega)) HNO.out)
            clear c4 c9 HST
            by_cases c5 : 1 ≤ i
            · have e5 : decide ((i : Int) ≥ 1) = true := decide_eq_true (by omega)
              by_cases c6 : i ≤ 155
              · have e6 : decide ((i : Int) ≤ 155) = true := decide_eq_true (by omega)
                have HR := Lib.hid (HPL.out.trans (decide_eq_true ⟨c5, c6⟩))
                clear c5 c6
                go_wp2_with fail
                go_ret
                exact ⟨by rw [HR.out]; rfl, rfl⟩
              · have e6 : decide ((i : Int) ≤ 155) = false := decide_eq_false (by omega)
                have HR := Lib.hid (HPL.out.trans (decide_eq_false (fun h => c6 h.2)))
                clear c5 c6
                go_wp2_with fail
                go_ret
                exact ⟨by rw [HR.out]; rfl, rfl⟩
            · have e5 : decide ((i : Int) ≥ 1) = false := decide_eq_false (by omega)
              have HR := Lib.hid (HPL.out.trans (decide_eq_false (fun h => c5 h.1)))
              clear c5
              go_wp2_with fail
              go_ret
              exact ⟨by rw [HR.out]; rfl, rfl⟩
      · rw [decide_eq_false c3] at t1
        have HN2 := Lib.hid (HST.out (okAt_other (by rw [HX.out]; exact c3)))
        clear c3 HST
        go_wp2_with fail
        exact ⟨⟨i + 1, by simp, by omega, HN2, by trivial⟩, by simp [intOf]; omega⟩
    · have e1 : decide ((i : Int) < (S.size : Int)) = false := decide_eq_false (by omega)
      have e2 : decide (i < S.size) = false := decide_eq_false c2
      obtain rfl : i = S.size := by omega
      have HPL := Lib.hid (firstL_none (l := l) (fun j hj => HNO.out j (by have := HSS.out; omega)))
      go_wp2_with fail
      go_ret
      exact ⟨by rw [HPL.out]; rfl, rfl⟩
end Go.Proofs.YtggjdfnkmhlliaaDoor.Walks
