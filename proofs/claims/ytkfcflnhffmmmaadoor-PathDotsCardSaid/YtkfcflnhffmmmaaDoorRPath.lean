/- Contracts of the reference's Right, Split, Last, Less; of the law's texts. -/
import Derived.Test.YtkfcflnhffmmmaaDoorRClean
namespace Go.Proofs.YtkfcflnhffmmmaaDoor.Walks
open Go Go.RowKit Go.Proofs.YtkfcflnhffmmmaaDoor.Aid Go.Proofs.YtkfcflnhffmmmaaDoor.Pth Go.Proofs.YtkfcflnhffmmmaaDoor.OwnS Go.Proofs.YtkfcflnhffmmmaaDoorW.PrintWords

theorem rright_any (S : ByteArray) (w : World) (hs : S.size ≤ 500000) : Calls Tryd.prog 12 #[.string S] w (BoolPost (rightL S.data.toList) w) := by
  have HR := Lib.hid (right_eq S)
  go_enter Tryd.func12, Tryd.ntmps12
  go_wp2_with fail
  refine (rclean_any S w hs).mono ?_
  rintro x w1 ⟨rfl, h1⟩
  have H1 := Lib.hid h1
  clear h1
  obtain ⟨c, hc⟩ : ∃ c, cleanS S = c := ⟨_, rfl⟩
  obtain ⟨b, hb⟩ : ∃ b, cleanB S = b := ⟨_, rfl⟩
  rw [hc, hb] at HR ⊢
  clear hc hb
  cases b with
  | true =>
    obtain ⟨q, hq⟩ : ∃ q, (c.toList == S.toList) = q := ⟨_, rfl⟩
    rw [hq] at HR
    go_wp2_with fail
    go_ret
    exact ⟨by rw [← HR.out]; rfl, H1.out⟩
  | false =>
    go_wp2_with fail
    go_ret
    exact ⟨by rw [← HR.out]; rfl, H1.out⟩
theorem rsplit_right (S : ByteArray) (w : World) (hs : S.size ≤ 500000) : Calls Tryd.prog 15 #[.string S] w (ListPost (splitL S.data.toList) w) := by
  obtain ⟨b, hb⟩ : ∃ b, rightL S.data.toList = b := ⟨_, rfl⟩
  have HB := Lib.hid hb
  clear hb
  go_enter Tryd.func15, Tryd.ntmps15
  go_wp2_with fail
  refine (rright_any S w hs).mono ?_
  rintro x w1 ⟨rfl, h1⟩
  rw [HB.out]
  have H1 := Lib.hid h1
  clear h1
  cases b with
  | true =>
    have HL := Lib.hid (show splitL S.data.toList = partsL S.data.toList by unfold splitL; rw [HB.out, if_pos rfl])
    go_wp2_with fail
    refine (rparts_any S w1 hs).mono ?_
    rintro x w2 ⟨A, c, rfl, hc, hR, ho2⟩
    have H2 := Lib.hid (H1.out.trans' ho2)
    have HR := Lib.hid hR
    have HC := Lib.hid hc
    clear ho2 hR hc
    go_wp2_with fail
    go_ret
    exact ⟨A, c, by rw [HL.out]; rfl, by rw [HL.out]; exact HC.out, by rw [HL.out]; exact HR.out, H2.out⟩
  | false =>
    have HL := Lib.hid (show splitL S.data.toList = [] by unfold splitL; rw [HB.out, if_neg (by decide)])
    go_wp2_with fail
    go_ret
    exact ⟨none, 0, by rw [HL.out]; rfl, by rw [HL.out]; exact Nat.le_refl _, by rw [HL.out]; exact fun h0 => absurd h0 (by simp), H1.out⟩
set_option maxHeartbeats 2000000 in
theorem rlast_any (S : ByteArray) (w : World) (hs : S.size ≤ 500000) : Calls Tryd.prog 17 #[.string S] w fun e w' => e = .returned (.string (B (lastL S.data.toList))) ∧ Only (fun _ => False) w w' := by
  have HL := Lib.hid (splitL_le S.data.toList)
  obtain ⟨ls, hls⟩ : ∃ ls, splitL S.data.toList = ls := ⟨_, rfl⟩
  rw [hls] at HL
  have HLS := Lib.hid hls
  clear hls
  go_enter Tryd.func17, Tryd.ntmps17
  go_wp2_with fail
  refine (rsplit_right S w hs).mono ?_
  rintro x w1 ⟨A, c, rfl, hc, hR, h1⟩
  rw [HLS.out] at hc hR ⊢
  have H1 := Lib.hid h1
  have HR := Lib.hid hR
  clear h1 hR
  by_cases h0 : ls.length = 0
  · have e1 : ((ls.length : Int) == 0) = true := beq_iff_eq.mpr (by omega)
    have HE := Lib.hid (show lastL S.data.toList = [] by unfold lastL; rw [HLS.out, List.eq_nil_of_length_eq_zero h0]; rfl)
    go_wp2_with fail
    go_ret
    exact ⟨by rw [HE.out]; rfl, H1.out⟩
  · have e1 : ((ls.length : Int) == 0) = false := beq_eq_false_iff_ne.mpr (by omega)
    obtain ⟨ad, rfl, hcell⟩ := HR.out (by rw [List.length_map]; omega)
    obtain ⟨n, hn⟩ : ∃ n, ls.length = n + 1 := ⟨ls.length - 1, by omega⟩
    have c0 := hcell n (by rw [List.length_map]; omega)
    have HE := Lib.hid (show B (lastL S.data.toList) = (ls.map B).getD n ⟨#[]⟩ by
      unfold lastL
      rw [HLS.out, List.getLastD_eq_getLast?, List.getLast?_eq_getElem?, hn, Nat.add_sub_cancel, List.getD_eq_getElem?_getD, List.getElem?_map, List.getElem?_eq_getElem (by omega)]
      rfl)
    obtain ⟨P, hP⟩ : ∃ P, (ls.map B).getD n ⟨#[]⟩ = P := ⟨_, rfl⟩
    rw [hP] at c0 HE
    have b1 : (n : Int) ≤ 500001 := by have := HL.out; have e : S.data.toList.length = S.size := rfl; omega
    rw [hn] at hc e1 ⊢
    clear hcell hP
    go_wp2_with fail
    go_ret
    exact ⟨by rw [HE.out]; rfl, H1.out⟩
set_option maxHeartbeats 2000000 in
theorem texts_any {w : World} {A C : Option Addr} {xs ys : List Str} {n k : Nat} (c d : Nat) (hn : xs.length = n) (hk : ys.length = k) (hx : RdS w A (xs.map B)) (hy : RdS w C (ys.map B)) (hl : xs.length ≤ 500001) (e : xs = ys) :
    Calls Tryd.prog 13 #[.slice A n c, .slice C k d] w fun e w' => e = .returned (.bool true) ∧ ∃ m, w' = w.drewN m := by
  subst e hn
  subst hk
  have HX := Lib.hid hx
  have HY := Lib.hid hy
  have HL := Lib.hid hl
  have e0 : ((xs.length : Int) != (xs.length : Int)) = false := bne_self_eq_false _
  have e0' : (xs.length != xs.length) = false := bne_self_eq_false _
  clear hx hy hl
  go_enter Tryd.func13, Tryd.ntmps13
  go_wp2_with fail
  go_loopw [5] (fun v5 u => ∃ i : Nat, v5 = .int .i64 (i : Int) ∧ i ≤ xs.length ∧ ∃ m, u = w.drewN m) (fun i _ => xs.length - (intOf i).toNat)
  case atStart => exact ⟨0, rfl, by omega, 0, rfl⟩
  case round =>
    obtain ⟨i, rfl, hi, m, rfl⟩ := hrel
    by_cases c1 : i < xs.length
    · have d1 : decide ((i : Int) < (xs.length : Int)) = true := decide_eq_true (by omega)
      have d1' : decide (i < xs.length) = true := decide_eq_true c1
      have d2 : (i : Int) < (xs.length : Int) := by omega
      have b1 : (i : Int) ≤ 500001 := by have := HL.out; omega
      obtain ⟨ad, rfl, hc⟩ := HX.out (by rw [List.length_map]; omega)
      obtain ⟨bd, rfl, hf⟩ := HY.out (by rw [List.length_map]; omega)
      have c0 := hc i (by rw [List.length_map]; exact c1)
      have f0 := hf i (by rw [List.length_map]; exact c1)
      obtain ⟨P, hP⟩ : ∃ P, (xs.map B).getD i ⟨#[]⟩ = P := ⟨_, rfl⟩
      rw [hP] at c0 f0
      have e1 : (P.toList != P.toList) = false := bne_self_eq_false _
      have e2 : (P.toList == P.toList) = true := beq_self_eq_true _
      clear hc hf hP
      go_wp2_with fail
      go_quiet (fail)
      go_wp2_with fail
      exact ⟨⟨i + 1, by simp, by omega, _, rfl⟩, by simp [intOf]; omega⟩
    · have d1 : decide ((i : Int) < (xs.length : Int)) = false := decide_eq_false (by omega)
      have d1' : decide (i < xs.length) = false := decide_eq_false c1
      go_wp2_with fail
      go_ret
      exact ⟨rfl, m, rfl⟩
end Go.Proofs.YtkfcflnhffmmmaaDoor.Walks
