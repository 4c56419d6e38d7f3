/- PathOrder answers true. -/
import Derived.Test.YtkfcflnhffmmmaaDoorLawCleans
namespace Go.Proofs.YtkfcflnhffmmmaaDoor.Walks
open Go Go.RowKit Go.Proofs.YtkfcflnhffmmmaaDoor.Aid Go.Proofs.YtkfcflnhffmmmaaDoor.Pth Go.Proofs.YtkfcflnhffmmmaaDoor.OwnS Go.Proofs.YtkfcflnhffmmmaaDoorW.PrintWords Go.ChangeShapes Go.WideShapes

theorem bytes_trans : ∀ {a b c : Str}, Op.bytesLess a b = true → Op.bytesLess b c = true → Op.bytesLess a c = true
  | _, [], _, h, _ => by simp [Op.bytesLess] at h
  | _, _ :: _, [], _, h => by simp [Op.bytesLess] at h
  | [], _ :: _, _ :: _, _, _ => rfl
  | x :: a, y :: b, z :: c, h1, h2 => by
    simp only [Op.bytesLess, Bool.or_eq_true, Bool.and_eq_true, decide_eq_true_iff, beq_iff_eq] at h1 h2 ⊢
    rcases h1 with h1 | ⟨rfl, h1⟩
    · rcases h2 with h2 | ⟨rfl, h2⟩
      · exact Or.inl (UInt8.lt_trans h1 h2)
      · exact Or.inl h1
    · rcases h2 with h2 | ⟨rfl, h2⟩
      · exact Or.inl h2
      · exact Or.inr ⟨rfl, bytes_trans h1 h2⟩
theorem cmpS_zero {a b : Str} : cmpS a b = 0 ↔ a = b := by
  constructor
  · intro h
    by_cases e : a = b
    · exact e
    · exact absurd h (cmpS_ne e).1
  · rintro rfl; exact cmpS_self a
theorem cmpS_neg {a b : Str} : cmpS a b < 0 ↔ Op.bytesLess a b = true := by
  unfold cmpS
  cases Op.bytesLess a b with
  | true => simp
  | false => simp; split <;> simp
theorem cmpL_self : ∀ xs : List Str, cmpL xs xs = 0
  | [] => rfl
  | x :: r => by rw [cmpL, if_pos (cmpS_self x)]; exact cmpL_self r
theorem cmpL_trans : ∀ {xs ys zs : List Str}, cmpL xs ys < 0 → cmpL ys zs < 0 → cmpL xs zs < 0
  | [], _, [], h1, h2 => by
    rename_i ys
    cases ys with
    | nil => exact h1
    | cons y s => simp [cmpL] at h2
  | [], _, _ :: _, _, _ => by simp [cmpL]
  | x :: r, [], _, h1, _ => by simp [cmpL] at h1
  | x :: r, y :: s, [], _, h2 => by simp [cmpL] at h2
  | x :: r, y :: s, z :: t, h1, h2 => by
    rw [cmpL] at h1 h2 ⊢
    by_cases e1 : x = y
    · subst e1
      rw [if_pos (cmpS_self x)] at h1
      by_cases e2 : x = z
      · subst e2
        rw [if_pos (cmpS_self x)] at h2 ⊢
        exact cmpL_trans h1 h2
      · rw [if_neg (cmpS_ne e2).1] at h2 ⊢
        exact h2
    · rw [if_neg (cmpS_ne e1).1] at h1
      by_cases e2 : y = z
      · subst e2
        rw [if_neg (cmpS_ne e1).1]
        exact h1
      · rw [if_neg (cmpS_ne e2).1] at h2
        have h3 := bytes_trans (cmpS_neg.1 h1) (cmpS_neg.1 h2)
        have h4 := cmpS_neg.2 h3
        rw [if_neg (by omega)]
        exact h4
theorem less_self (a : Str) : lessL a a = false := by unfold lessL; rw [cmpL_self]; rfl
theorem less_trans {a b c : Str} (h1 : lessL a b = true) (h2 : lessL b c = true) : lessL a c = true := decide_eq_true (cmpL_trans (of_decide_eq_true h1) (of_decide_eq_true h2))
theorem less_anti {a b : Str} (h1 : lessL a b = true) : lessL b a = false := by
  cases h : lessL b a with
  | false => rfl
  | true => exact absurd (less_trans h1 h) (by rw [less_self]; decide)
set_option maxHeartbeats 8000000 in
theorem order_any (S T R : ByteArray) (w : World) (hs : S.size ≤ 100) (ht : T.size ≤ 100) (hr : R.size ≤ 100) (hm : MaxLen w) : Calls Tryd.prog 4 #[.string S, .string T, .string R] w (BoolPost true w) := by
  have HM := Lib.hid hm
  have HS := Lib.hid (show S.size ≤ 500000 by omega)
  have HT := Lib.hid (show T.size ≤ 500000 by omega)
  have HR := Lib.hid (show R.size ≤ 500000 by omega)
  have a1 : decide ((S.size : Int) > 100) = false := decide_eq_false (by omega)
  have a1' : decide (S.size > 100) = false := decide_eq_false (by omega)
  have a2 : decide ((T.size : Int) > 100) = false := decide_eq_false (by omega)
  have a2' : decide (T.size > 100) = false := decide_eq_false (by omega)
  have a3 : decide ((R.size : Int) > 100) = false := decide_eq_false (by omega)
  have a3' : decide (R.size > 100) = false := decide_eq_false (by omega)
  have HAA := Lib.hid (less_self S.data.toList)
  obtain ⟨p, hp⟩ : ∃ p, lessL S.data.toList T.data.toList = p := ⟨_, rfl⟩
  obtain ⟨q, hq⟩ : ∃ q, lessL T.data.toList R.data.toList = q := ⟨_, rfl⟩
  obtain ⟨r, hr'⟩ : ∃ r, lessL S.data.toList R.data.toList = r := ⟨_, rfl⟩
  obtain ⟨b, hb⟩ : ∃ b, lessL T.data.toList S.data.toList = b := ⟨_, rfl⟩
  have HTr := Lib.hid (show p = true → q = true → r = true from fun h1 h2 => by rw [← hr']; exact less_trans (hp.trans h1) (hq.trans h2))
  have HAn := Lib.hid (show p = true → b = false from fun h1 => by rw [← hb]; exact less_anti (hp.trans h1))
  have HP := Lib.hid hp
  have HQ := Lib.hid hq
  have HRr := Lib.hid hr'
  have HBb := Lib.hid hb
  clear hm hs ht hr hp hq hr' hb
  go_enter Tryd.func4, Tryd.ntmps4
  go_wp2_with fail
  refine (less_any S T w HS.out HT.out HM.out).mono ?_
  rintro x w1 ⟨rfl, h1⟩
  rw [HP.out]
  have H1 := Lib.hid h1
  clear h1
  go_wp2_with fail
  refine (rless_any S T w1 HS.out HT.out).mono ?_
  rintro x w2 ⟨rfl, h2⟩
  rw [HP.out]
  have H2 := Lib.hid (H1.out.trans' h2)
  clear h2 H1
  have e0 : (p != p) = false := bne_self_eq_false _
  go_wp2_with fail
  refine (less_any S S w2 HS.out HS.out (HM.out.only H2.out)).mono ?_
  rintro x w3 ⟨rfl, h3⟩
  rw [HAA.out]
  have H3 := Lib.hid (H2.out.trans' h3)
  clear h3 H2
  go_wp2_with fail
  refine (less_any S T w3 HS.out HT.out (HM.out.only H3.out)).mono ?_
  rintro x w4 ⟨rfl, h4⟩
  rw [HP.out]
  have H4 := Lib.hid (H3.out.trans' h4)
  clear h4 H3
  cases p with
  | true =>
    have eb : b = false := by simpa using HAn.out
    subst eb
    go_wp2_with fail
    refine (less_any T R w4 HT.out HR.out (HM.out.only H4.out)).mono ?_
    rintro x w5 ⟨rfl, h5⟩
    rw [HQ.out]
    have H5 := Lib.hid (H4.out.trans' h5)
    clear h5 H4
    cases q with
    | true =>
      have er : r = true := by simpa using HTr.out
      subst er
      go_wp2_with fail
      refine (less_any S R w5 HS.out HR.out (HM.out.only H5.out)).mono ?_
      rintro x w6 ⟨rfl, h6⟩
      rw [HRr.out]
      have H6 := Lib.hid (H5.out.trans' h6)
      clear h6 H5
      go_wp2_with fail
      refine (told_any w6 (HM.out.only H6.out)).mono ?_
      rintro x w8 ⟨rfl, h8⟩
      have H8 := Lib.hid (H6.out.trans' h8)
      clear h8
      go_wp2_with fail
      refine (less_any S T w8 HS.out HT.out (HM.out.only H8.out)).mono ?_
      rintro x w9 ⟨rfl, h9⟩
      rw [HP.out]
      have H9 := Lib.hid (H8.out.trans' h9)
      clear h9
      go_wp2_with fail
      refine (less_any T S w9 HT.out HS.out (HM.out.only H9.out)).mono ?_
      rintro x w10 ⟨rfl, h10⟩
      rw [HBb.out]
      have H10 := Lib.hid (H9.out.trans' h10)
      clear h10
      go_wp2_with fail
      go_ret
      exact ⟨rfl, H10.out⟩
    | false =>
      go_wp2_with fail
      refine (told_any w5 (HM.out.only H5.out)).mono ?_
      rintro x w8 ⟨rfl, h8⟩
      have H8 := Lib.hid (H5.out.trans' h8)
      clear h8
      go_wp2_with fail
      refine (less_any S T w8 HS.out HT.out (HM.out.only H8.out)).mono ?_
      rintro x w9 ⟨rfl, h9⟩
      rw [HP.out]
      have H9 := Lib.hid (H8.out.trans' h9)
      clear h9
      go_wp2_with fail
      refine (less_any T S w9 HT.out HS.out (HM.out.only H9.out)).mono ?_
      rintro x w10 ⟨rfl, h10⟩
      rw [HBb.out]
      have H10 := Lib.hid (H9.out.trans' h10)
      clear h10
      go_wp2_with fail
      go_ret
      exact ⟨rfl, H10.out⟩
  | false =>
    go_wp2_with fail
    refine (told_any w4 (HM.out.only H4.out)).mono ?_
    rintro x w8 ⟨rfl, h8⟩
    have H8 := Lib.hid (H4.out.trans' h8)
    clear h8
    go_wp2_with fail
    refine (less_any S T w8 HS.out HT.out (HM.out.only H8.out)).mono ?_
    rintro x w9 ⟨rfl, h9⟩
    rw [HP.out]
    have H9 := Lib.hid (H8.out.trans' h9)
    clear h9
    go_wp2_with fail
    go_ret
    exact ⟨rfl, H9.out⟩
theorem lawOrder {H : Type} {enc : TypeId × Value → H} {W : World} {base : Nat} {v0 v1 v2 : Value} {d0 d1 d2 : DataW H} {p0 p1 p2 : List MemPlace} {ts : List TypeId} {ds : List (DataW H)} (hm : MaxLen W)
    (ov0 : Value.okWide Tryd.prog W .any base 9 v0) (k0 : DataW.Trod enc Tryd.prog W 0 (fun _ => true) true 9 v0 d0 p0)
    (ov1 : Value.okWide Tryd.prog W .any base 9 v1) (k1 : DataW.Trod enc Tryd.prog W 0 (fun _ => true) true 9 v1 d1 p1)
    (ov2 : Value.okWide Tryd.prog W .any base 9 v2) (k2 : DataW.Trod enc Tryd.prog W 0 (fun _ => true) true 9 v2 d2 p2)
    (_ : (DataW.weightsEach Tryd.prog ts ds).all (· ≤ reachBytes) = true) :
    Calls Tryd.prog 4 #[v0, v1, v2] W fun e w' => e = .returned (.bool true) ∧ Below W.heap.size W w' := by
  obtain ⟨S, rfl, _, _, wS⟩ := Go.ChangeMaps.open_string Tryd.underlying9 ov0 k0
  obtain ⟨T, rfl, _, _, wT⟩ := Go.ChangeMaps.open_string Tryd.underlying9 ov1 k1
  obtain ⟨R, rfl, _, _, wR⟩ := Go.ChangeMaps.open_string Tryd.underlying9 ov2 k2
  have HM := Lib.hid hm
  clear k0 k1 k2 ov0 ov1 ov2 hm
  by_cases hs : S.size ≤ 100
  · by_cases ht : T.size ≤ 100
    · by_cases hr : R.size ≤ 100
      · exact (order_any S T R W hs ht hr HM.out).mono fun x w' h => ⟨h.1, h.2.none⟩
      · have a1 : decide ((S.size : Int) > 100) = false := decide_eq_false (by omega)
        have a1' : decide (S.size > 100) = false := decide_eq_false (by omega)
        have a2 : decide ((T.size : Int) > 100) = false := decide_eq_false (by omega)
        have a2' : decide (T.size > 100) = false := decide_eq_false (by omega)
        have a3 : decide ((R.size : Int) > 100) = true := decide_eq_true (by omega)
        have a3' : decide (R.size > 100) = true := decide_eq_true (by omega)
        go_enter Tryd.func4, Tryd.ntmps4
        go_wp2_with fail
        refine (told_any _ HM.out).mono ?_
        rintro x w4 ⟨rfl, hb4⟩
        go_wp2_with fail
        go_ret
        exact ⟨rfl, hb4.none⟩
    · have a1 : decide ((S.size : Int) > 100) = false := decide_eq_false (by omega)
      have a1' : decide (S.size > 100) = false := decide_eq_false (by omega)
      have a2 : decide ((T.size : Int) > 100) = true := decide_eq_true (by omega)
      have a2' : decide (T.size > 100) = true := decide_eq_true (by omega)
      go_enter Tryd.func4, Tryd.ntmps4
      go_wp2_with fail
      refine (told_any _ HM.out).mono ?_
      rintro x w4 ⟨rfl, hb4⟩
      go_wp2_with fail
      go_ret
      exact ⟨rfl, hb4.none⟩
  · have a1 : decide ((S.size : Int) > 100) = true := decide_eq_true (by omega)
    have a1' : decide (S.size > 100) = true := decide_eq_true (by omega)
    go_enter Tryd.func4, Tryd.ntmps4
    go_wp2_with fail
    refine (told_any _ HM.out).mono ?_
    rintro x w4 ⟨rfl, hb4⟩
    go_wp2_with fail
    go_ret
    exact ⟨rfl, hb4.none⟩
end Go.Proofs.YtkfcflnhffmmmaaDoor.Walks
