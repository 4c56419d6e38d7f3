/- Contract of the reference's Less. -/
import Derived.Test.YtkfcflnhffmmmaaDoorRPath
namespace Go.Proofs.YtkfcflnhffmmmaaDoor.Walks
open Go Go.RowKit Go.Proofs.YtkfcflnhffmmmaaDoor.Aid Go.Proofs.YtkfcflnhffmmmaaDoor.Pth Go.Proofs.YtkfcflnhffmmmaaDoor.OwnS Go.Proofs.YtkfcflnhffmmmaaDoorW.PrintWords

theorem less_irrefl : ∀ l : Str, Op.bytesLess l l = false
  | [] => rfl
  | x :: r => by
    have := less_irrefl r
    simp [Op.bytesLess, this]
theorem cmpS_self (l : Str) : cmpS l l = 0 := by unfold cmpS; rw [less_irrefl, if_neg (by decide), if_pos rfl]
theorem cmpS_ne {p q : Str} (h : p ≠ q) : cmpS p q ≠ 0 ∧ decide (cmpS p q < 0) = Op.bytesLess p q := by
  unfold cmpS
  cases hb : Op.bytesLess p q with
  | true => exact ⟨by simp, by simp⟩
  | false => rw [if_neg (by decide), if_neg h]; exact ⟨by decide, by decide⟩
/-- Where the lists are alike up to i. -/
def Alike (xs ys : List Str) (i : Nat) : Prop := cmpL xs ys = cmpL (xs.drop i) (ys.drop i)
theorem alike_step {xs ys : List Str} {i : Nat} {p : Str} (h : Alike xs ys i) (h1 : i < xs.length) (h2 : i < ys.length) (hp : xs.getD i [] = p) (hq : ys.getD i [] = p) : Alike xs ys (i + 1) := by
  unfold Alike at h ⊢
  rw [h, drop_at (d := []) h1, drop_at (d := []) h2, hp, hq, cmpL, if_pos (cmpS_self p)]
theorem alike_part {xs ys : List Str} {i : Nat} {p q : Str} (h : Alike xs ys i) (h1 : i < xs.length) (h2 : i < ys.length) (hp : xs.getD i [] = p) (hq : ys.getD i [] = q) (hne : p ≠ q) : decide (cmpL xs ys < 0) = Op.bytesLess p q := by
  unfold Alike at h
  rw [h, drop_at (d := []) h1, drop_at (d := []) h2, hp, hq, cmpL, if_neg (cmpS_ne hne).1]
  exact (cmpS_ne hne).2
theorem alike_end {xs ys : List Str} {i : Nat} (h : Alike xs ys i) (h1 : i ≤ xs.length) (h2 : i ≤ ys.length) (hn : ¬ (i < xs.length ∧ i < ys.length)) : decide (cmpL xs ys < 0) = decide (xs.length < ys.length) := by
  unfold Alike at h
  rw [h]
  by_cases a : i < xs.length
  · rw [drop_at (d := []) a, List.drop_eq_nil_of_le (show ys.length ≤ i by omega)]
    rw [decide_eq_false (show ¬ xs.length < ys.length by omega)]
    rfl
  · by_cases b : i < ys.length
    · rw [List.drop_eq_nil_of_le (show xs.length ≤ i by omega), drop_at (d := []) b, decide_eq_true (show xs.length < ys.length by omega)]
      rfl
    · rw [List.drop_eq_nil_of_le (show xs.length ≤ i by omega), List.drop_eq_nil_of_le (show ys.length ≤ i by omega), decide_eq_false (show ¬ xs.length < ys.length by omega)]
      rfl
set_option maxHeartbeats 4000000 in
theorem rless_any (S T : ByteArray) (w : World) (hs : S.size ≤ 500000) (ht : T.size ≤ 500000) : Calls Tryd.prog 19 #[.string S, .string T] w (BoolPost (lessL S.data.toList T.data.toList) w) := by
  have eS : S.data.toList.length = S.size := rfl
  have eT : T.data.toList.length = T.size := rfl
  have HS := Lib.hid (partsOf_le S.data.toList)
  have HT := Lib.hid (partsOf_le T.data.toList)
  rw [eS] at HS
  rw [eT] at HT
  have HLs := Lib.hid (show lessL S.data.toList T.data.toList = decide (cmpL (partsOf S.data.toList) (partsOf T.data.toList) < 0) from rfl)
  obtain ⟨xs, hxs⟩ : ∃ xs, partsOf S.data.toList = xs := ⟨_, rfl⟩
  obtain ⟨ys, hys⟩ : ∃ ys, partsOf T.data.toList = ys := ⟨_, rfl⟩
  rw [hxs] at HS HLs
  rw [hys] at HT HLs
  obtain ⟨ls, hls⟩ : ∃ ls, splitL S.data.toList = ls := ⟨_, rfl⟩
  obtain ⟨ms, hms⟩ : ∃ ms, splitL T.data.toList = ms := ⟨_, rfl⟩
  have HX := Lib.hid (show xs = if ls = [] then [S.data.toList] else ls by rw [← hxs, ← hls]; rfl)
  have HY := Lib.hid (show ys = if ms = [] then [T.data.toList] else ms by rw [← hys, ← hms]; rfl)
  have HA := Lib.hid hls
  have HB := Lib.hid hms
  obtain ⟨b1, hb1⟩ : ∃ b1, ((ls.length : Int) == 0) = b1 := ⟨_, rfl⟩
  obtain ⟨b2, hb2⟩ : ∃ b2, ((ms.length : Int) == 0) = b2 := ⟨_, rfl⟩
  clear hxs hys hls hms eS eT
  go_enter Tryd.func19, Tryd.ntmps19
  go_wp2_with fail
  refine (rsplit_right S w hs).mono ?_
  rintro x w1 ⟨A, c, rfl, hc, hR, h1⟩
  rw [HA.out] at hc hR ⊢
  have H1 := Lib.hid h1
  have HR := Lib.hid hR
  clear h1 hR
  go_wp2_with fail
  refine (rsplit_right T w1 ht).mono ?_
  rintro x w2 ⟨A2, c2, rfl, hc2, hR2, h2⟩
  rw [HB.out] at hc2 hR2 ⊢
  have H2 := Lib.hid (H1.out.trans' h2)
  have HR1 := Lib.hid (HR.out.only h2)
  have HR2 := Lib.hid hR2
  clear h2 hR2 HR
  go_upto_if 14 with (fail)
  go_cut [5] from 15 to 16 (fun v5 wc => ∃ A c, v5 = .slice A xs.length c ∧ Hid (RdS wc A (xs.map B)) ∧ Hid (Only (fun _ => False) w2 wc))
  case first =>
    cases b1 with
    | true =>
      have HE := Lib.hid (show xs = [S.data.toList] by rw [HX.out, if_pos (List.eq_nil_of_length_eq_zero (by have := beq_iff_eq.1 hb1; omega))])
      have HO := Lib.hid (one_at w2 S)
      go_wp2_with fail
      go_meet
      case rel => exact ⟨_, 1, by rw [HE.out]; rfl, Lib.hid (by rw [HE.out, List.map_cons, List.map_nil, data_B]; exact HO.out), Lib.hid ((Only.refl _ _).alloc _)⟩
    | false =>
      have HE := Lib.hid (show xs = ls by rw [HX.out, if_neg (fun e => by rw [e] at hb1; exact absurd hb1 (by decide))])
      go_wp2_with fail
      go_meet
      case rel => exact ⟨A, c, by rw [HE.out], by rw [HE.out]; exact HR1, Lib.hid (Only.refl _ _)⟩
  case rest =>
    obtain ⟨A1, c1, rfl, HXr, HX1⟩ := hcut
    have HYr := Lib.hid (HR2.out.only HX1.out)
    have H3 := Lib.hid (H2.out.trans' HX1.out)
    clear HR1 HR2 HX1 H2
    go_upto_if 19 with (fail)
    go_cut [6] from 20 to 21 (fun v6 wd => ∃ A c, v6 = .slice A ys.length c ∧ Hid (RdS wd A (ys.map B)) ∧ Hid (Only (fun _ => False) wc wd))
    case first =>
      cases b2 with
      | true =>
        have HE := Lib.hid (show ys = [T.data.toList] by rw [HY.out, if_pos (List.eq_nil_of_length_eq_zero (by have := beq_iff_eq.1 hb2; omega))])
        have HO := Lib.hid (one_at wc T)
        go_wp2_with fail
        go_meet
        case rel => exact ⟨_, 1, by rw [HE.out]; rfl, Lib.hid (by rw [HE.out, List.map_cons, List.map_nil, data_B]; exact HO.out), Lib.hid ((Only.refl _ _).alloc _)⟩
      | false =>
        have HE := Lib.hid (show ys = ms by rw [HY.out, if_neg (fun e => by rw [e] at hb2; exact absurd hb2 (by decide))])
        go_wp2_with fail
        go_meet
        case rel => exact ⟨A2, c2, by rw [HE.out], by rw [HE.out]; exact HYr, Lib.hid (Only.refl _ _)⟩
    case rest =>
      obtain ⟨A3, c3, rfl, HYd, HY1⟩ := hcut
      have HXd := Lib.hid (HXr.out.only HY1.out)
      have H4 := Lib.hid (H3.out.trans' HY1.out)
      have HXl := Lib.hid (show xs.length ≤ 500001 by have := HS.out; omega)
      have HYl := Lib.hid (show ys.length ≤ 500001 by have := HT.out; omega)
      clear HXr HYr H3 HY1 HX HY HA HB hb1 hb2 hc hc2 HS HT hs ht H1
      go_wp2_with fail
      go_loopw [7] (fun v7 u => ∃ i : Nat, v7 = .int .i64 (i : Int) ∧ i ≤ xs.length ∧ i ≤ ys.length ∧ Hid (Alike xs ys i) ∧ ∃ m, u = wc.drewN m) (fun i _ => xs.length - (intOf i).toNat)
      case atStart => exact ⟨0, rfl, by omega, by omega, Lib.hid rfl, 0, rfl⟩
      case round =>
        obtain ⟨i, rfl, hi1, hi2, HE, m, rfl⟩ := hrel
        have b1 : (i : Int) ≤ 500001 := by have := HXl.out; omega
        by_cases k1 : i < xs.length ∧ i < ys.length
        · have d1 : decide ((i : Int) < (xs.length : Int)) = true := decide_eq_true (by omega)
          have d1' : decide (i < xs.length) = true := decide_eq_true k1.1
          have d2 : decide ((i : Int) < (ys.length : Int)) = true := decide_eq_true (by omega)
          have d2' : decide (i < ys.length) = true := decide_eq_true k1.2
          have g1 : (i : Int) < (xs.length : Int) := by omega
          have g2 : (i : Int) < (ys.length : Int) := by omega
          obtain ⟨ad, rfl, hcx⟩ := HXd.out (by rw [List.length_map]; omega)
          obtain ⟨bd, rfl, hcy⟩ := HYd.out (by rw [List.length_map]; omega)
          have c0 := hcx i (by rw [List.length_map]; exact k1.1)
          have f0 := hcy i (by rw [List.length_map]; exact k1.2)
          rw [getD_map k1.1] at c0
          rw [getD_map k1.2] at f0
          obtain ⟨p, hp⟩ : ∃ p, xs.getD i [] = p := ⟨_, rfl⟩
          obtain ⟨q, hq⟩ : ∃ q, ys.getD i [] = q := ⟨_, rfl⟩
          rw [hp] at c0
          rw [hq] at f0
          obtain ⟨P, hP⟩ : ∃ P, B p = P := ⟨_, rfl⟩
          obtain ⟨Q, hQ⟩ : ∃ Q, B q = Q := ⟨_, rfl⟩
          rw [hP] at c0
          rw [hQ] at f0
          have tp : P.toList = p := by rw [← hP, toList_B]
          have tq : Q.toList = q := by rw [← hQ, toList_B]
          by_cases hpq : p = q
          · have e1 : (P.toList == Q.toList) = true := by rw [tp, tq, hpq]; exact beq_self_eq_true _
            have e1' : (P.toList != Q.toList) = false := by rw [bne, e1]; rfl
            have HE2 := Lib.hid (alike_step HE.out k1.1 k1.2 hp (hq.trans hpq.symm))
            clear hcx hcy hp hq hP hQ tp tq hpq
            go_wp2_with fail
            go_quiet (fail)
            go_wp2_with fail
            exact ⟨⟨i + 1, by simp, by omega, by omega, HE2, _, rfl⟩, by simp [intOf]; omega⟩
          · have e1 : (P.toList == Q.toList) = false := by rw [tp, tq, beq_decide]; exact decide_eq_false hpq
            have e1' : (P.toList != Q.toList) = true := by rw [bne, e1]; rfl
            have HE2 := Lib.hid (alike_part HE.out k1.1 k1.2 hp hq hpq)
            have HTp := Lib.hid tp
            have HTq := Lib.hid tq
            clear hcx hcy hp hq hP hQ tp tq hpq
            go_wp2_with fail
            go_quiet (fail)
            go_wp2_with fail
            go_quiet (fail)
            go_wp2_with fail
            go_ret
            exact ⟨by rw [HLs.out, HE2.out, ← HTp.out, ← HTq.out]; rfl, ((H4.out.drewN _).drewN _).drewN _⟩
        · have HE2 := Lib.hid (alike_end HE.out hi1 hi2 k1)
          obtain ⟨b, hb⟩ : ∃ b, decide (xs.length < ys.length) = b := ⟨_, rfl⟩
          have hb' : decide ((xs.length : Int) < (ys.length : Int)) = b := by rw [← hb]; exact decide_eq_decide.mpr (by omega)
          rw [hb] at HE2
          by_cases k2 : i < xs.length
          · have d1 : decide ((i : Int) < (xs.length : Int)) = true := decide_eq_true (by omega)
            have d1' : decide (i < xs.length) = true := decide_eq_true k2
            have d2 : decide ((i : Int) < (ys.length : Int)) = false := decide_eq_false (by omega)
            have d2' : decide (i < ys.length) = false := decide_eq_false (by omega)
            clear k1 k2
            go_wp2_with fail
            go_ret
            exact ⟨by rw [HLs.out, HE2.out]; rfl, H4.out.drewN _⟩
          · have d1 : decide ((i : Int) < (xs.length : Int)) = false := decide_eq_false (by omega)
            have d1' : decide (i < xs.length) = false := decide_eq_false k2
            clear k1 k2
            go_wp2_with fail
            go_ret
            exact ⟨by rw [HLs.out, HE2.out]; rfl, H4.out.drewN _⟩
end Go.Proofs.YtkfcflnhffmmmaaDoor.Walks
