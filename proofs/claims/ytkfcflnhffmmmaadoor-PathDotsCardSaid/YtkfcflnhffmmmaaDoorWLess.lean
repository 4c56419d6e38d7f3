/- Contracts of path.parts, cmp.Compare, slices.Compare, path.Less. -/
import Derived.Test.YtkfcflnhffmmmaaDoorWPath
namespace Go.Proofs.YtkfcflnhffmmmaaDoor.Walks
open Go Go.RowKit Go.Proofs.YtkfcflnhffmmmaaDoor.Aid Go.Proofs.YtkfcflnhffmmmaaDoor.Pth Go.Proofs.YtkfcflnhffmmmaaDoor.OwnS Go.Proofs.YtkfcflnhffmmmaaDoorW.PrintWords

def partsOf (l : Str) : List Str := if splitL l = [] then [l] else splitL l
theorem partsOf_le (l : Str) : (partsOf l).length ≤ l.length + 1 := by
  unfold partsOf
  split
  · simp
  · exact splitL_le l
theorem parts_any (S : ByteArray) (w : World) (hs : S.size ≤ 500000) (hm : MaxLen w) : Calls Tryd.prog 26 #[.string S] w (ListPost (partsOf S.data.toList) w) := by
  have HM := Lib.hid hm
  obtain ⟨ls, hls⟩ : ∃ ls, splitL S.data.toList = ls := ⟨_, rfl⟩
  have HLS := Lib.hid hls
  clear hls
  go_enter Tryd.func26, Tryd.ntmps26
  go_wp2_with fail
  refine (split_right S w hs HM.out).mono ?_
  rintro x w1 ⟨A, c, rfl, hc, hR, h1⟩
  rw [HLS.out] at hc hR ⊢
  have H1 := Lib.hid h1
  have HR := Lib.hid hR
  have HC := Lib.hid hc
  clear h1 hR hc
  by_cases h0 : ls = []
  · have e1 : decide ((ls.length : Int) > 0) = false := decide_eq_false (by rw [h0]; simp)
    have e1' : decide (0 < ls.length) = false := decide_eq_false (by rw [h0]; simp)
    have HP := Lib.hid (show partsOf S.data.toList = [S.data.toList] by unfold partsOf; rw [HLS.out, if_pos h0])
    clear h0
    go_wp2_with fail
    go_ret
    refine ⟨_, _, by rw [HP.out]; rfl, by rw [HP.out]; exact Nat.le_refl _, ?_, H1.out.alloc _⟩
    rw [HP.out]
    have := one_at w1 S
    rw [List.map_cons, List.map_nil, data_B]
    exact this
  · have hp : 0 < ls.length := List.length_pos_iff.mpr h0
    have e1 : decide ((ls.length : Int) > 0) = true := decide_eq_true (by omega)
    have e1' : decide (0 < ls.length) = true := decide_eq_true hp
    have HP := Lib.hid (show partsOf S.data.toList = ls by unfold partsOf; rw [HLS.out, if_neg h0])
    clear h0
    go_wp2_with fail
    go_ret
    exact ⟨A, c, by rw [HP.out]; rfl, by rw [HP.out]; exact HC.out, by rw [HP.out]; exact HR.out, H1.out⟩
def cmpS (l m : Str) : Int := if Op.bytesLess l m then -1 else if l = m then 0 else 1
theorem cmp_any (l m : Str) (w : World) : Calls Tryd.prog 32 #[.string (B l), .string (B m)] w fun e w' => e = .returned (.int .i64 (cmpS l m)) ∧ w' = w := by
  have t1 := toList_B l
  have t2 := toList_B m
  obtain ⟨S, hS⟩ : ∃ S, B l = S := ⟨_, rfl⟩
  obtain ⟨T, hT⟩ : ∃ T, B m = T := ⟨_, rfl⟩
  rw [hS] at t1 ⊢
  rw [hT] at t2 ⊢
  have HS := Lib.hid t1
  have HT := Lib.hid t2
  clear hS hT t1 t2
  have HC := Lib.hid (show cmpS l m = if Op.bytesLess S.toList T.toList then -1 else if (S.toList == T.toList) = true then 0 else 1 by
    rw [HS.out, HT.out]; unfold cmpS
    by_cases h : l = m
    · rw [if_pos h, if_pos (beq_iff_eq.mpr h)]
    · rw [if_neg h, if_neg (fun e => h (beq_iff_eq.1 e))])
  have e1 : (S.toList == S.toList) = true := beq_self_eq_true _
  have e2 : (T.toList == T.toList) = true := beq_self_eq_true _
  cases hb : Op.bytesLess S.toList T.toList with
  | true =>
    rw [hb] at HC
    go_enter Tryd.func32, Tryd.ntmps32
    go_wp2
    go_ret
    exact ⟨by rw [HC.out]; rfl, rfl⟩
  | false =>
    rw [hb] at HC
    cases he : (S.toList == T.toList) with
    | true =>
      rw [he] at HC
      go_enter Tryd.func32, Tryd.ntmps32
      go_wp2
      go_ret
      exact ⟨by rw [HC.out]; rfl, rfl⟩
    | false =>
      rw [he] at HC
      go_enter Tryd.func32, Tryd.ntmps32
      go_wp2
      go_ret
      exact ⟨by rw [HC.out]; rfl, rfl⟩
def cmpL : List Str → List Str → Int
  | [], [] => 0
  | [], _ :: _ => -1
  | _ :: _, [] => 1
  | a :: r, b :: s => if cmpS a b = 0 then cmpL r s else cmpS a b
theorem drop_at {α : Type} {l : List α} {i : Nat} {d : α} (h : i < l.length) : l.drop i = l.getD i d :: l.drop (i + 1) := by
  rw [List.getD_eq_getElem?_getD, List.getElem?_eq_getElem h]
  exact List.drop_eq_getElem_cons h
theorem getD_map {ls : List Str} {i : Nat} (h : i < ls.length) : (ls.map B).getD i ⟨#[]⟩ = B (ls.getD i []) := by
  rw [List.getD_eq_getElem?_getD, List.getD_eq_getElem?_getD, List.getElem?_map, List.getElem?_eq_getElem h]; rfl
set_option maxHeartbeats 2000000 in
theorem compare_any {w : World} {A C : Option Addr} {xs ys : List Str} {n k : Nat} (c d : Nat) (hn : xs.length = n) (hk : ys.length = k) (hx : RdS w A (xs.map B)) (hy : RdS w C (ys.map B)) (hl : xs.length ≤ 500001) (hl2 : ys.length ≤ 500001) :
    Calls Tryd.prog 25 #[.slice A n c, .slice C k d] w fun e w' => e = .returned (.int .i64 (cmpL xs ys)) ∧ w' = w := by
  subst hn hk
  have HX := Lib.hid hx
  have HY := Lib.hid hy
  have HL := Lib.hid hl
  have HL2 := Lib.hid hl2
  clear hx hy hl hl2
  go_enter Tryd.func25, Tryd.ntmps25
  go_wp2_with fail
  go_loopw [11] (fun v11 u => ∃ i : Nat, v11 = .int .i64 (i : Int) ∧ i ≤ xs.length ∧ i ≤ ys.length ∧ Hid (cmpL xs ys = cmpL (xs.drop i) (ys.drop i)) ∧ u = w) (fun i _ => xs.length - (intOf i).toNat)
  case atStart => exact ⟨0, rfl, by omega, by omega, Lib.hid rfl, rfl⟩
  case round =>
    obtain ⟨i, rfl, hi1, hi2, HE, rfl⟩ := hrel
    by_cases c1 : i < xs.length
    · have d1 : decide ((i : Int) < (xs.length : Int)) = true := decide_eq_true (by omega)
      have d1' : decide (i < xs.length) = true := decide_eq_true c1
      have d2 : (i : Int) < (xs.length : Int) := by omega
      have b1 : (i : Int) ≤ 500001 := by have := HL.out; omega
      obtain ⟨ad, rfl, hc⟩ := HX.out (by rw [List.length_map]; omega)
      have c0 := hc i (by rw [List.length_map]; exact c1)
      rw [getD_map c1] at c0
      have HD := Lib.hid (drop_at (d := []) c1)
      obtain ⟨p, hp⟩ : ∃ p, xs.getD i [] = p := ⟨_, rfl⟩
      rw [hp] at c0 HD
      clear hc hp
      by_cases c2 : i < ys.length
      · have g1 : decide ((i : Int) ≥ (ys.length : Int)) = false := decide_eq_false (by omega)
        have g1' : decide (ys.length ≤ i) = false := decide_eq_false (by omega)
        have g2 : (i : Int) < (ys.length : Int) := by omega
        obtain ⟨bd, rfl, hc⟩ := HY.out (by rw [List.length_map]; omega)
        have f0 := hc i (by rw [List.length_map]; exact c2)
        rw [getD_map c2] at f0
        have HF := Lib.hid (drop_at (d := []) c2)
        obtain ⟨q, hq⟩ : ∃ q, ys.getD i [] = q := ⟨_, rfl⟩
        rw [hq] at f0 HF
        have HE2 := HE.out
        rw [HD.out, HF.out, cmpL] at HE2
        clear hc hq HE
        obtain ⟨r, hr⟩ : ∃ r, cmpS p q = r := ⟨_, rfl⟩
        rw [hr] at HE2
        have HR := Lib.hid hr
        obtain ⟨P, hP⟩ : ∃ P, B p = P := ⟨_, rfl⟩
        obtain ⟨Q, hQ⟩ : ∃ Q, B q = Q := ⟨_, rfl⟩
        rw [hP] at c0
        rw [hQ] at f0
        have HC := cmp_any p q wr
        rw [hP, hQ, hr] at HC
        have HC := Lib.hid HC
        clear hP hQ hr
        by_cases r0 : r = 0
        · rw [if_pos r0] at HE2
          have HE3 := Lib.hid HE2
          have h0 : (r != 0) = false := bne_eq_false_iff_eq.mpr r0
          clear HE2 r0
          go_wp2_with fail
          refine HC.out.mono ?_
          rintro x w1 ⟨rfl, rfl⟩
          go_wp2_with fail
          exact ⟨⟨i + 1, by simp, by omega, by omega, HE3, by trivial⟩, by simp [intOf]; omega⟩
        · rw [if_neg r0] at HE2
          have HE3 := Lib.hid HE2
          have h0 : (r != 0) = true := bne_iff_ne.mpr r0
          clear HE2 r0
          go_wp2_with fail
          refine HC.out.mono ?_
          rintro x w1 ⟨rfl, rfl⟩
          go_wp2_with fail
          go_ret
          exact ⟨by rw [HE3.out]; rfl, rfl⟩
      · have g1 : decide ((i : Int) ≥ (ys.length : Int)) = true := decide_eq_true (by omega)
        have g1' : decide (ys.length ≤ i) = true := decide_eq_true (by omega)
        have HE3 := Lib.hid (show cmpL xs ys = 1 by
          rw [HE.out, HD.out, List.drop_eq_nil_of_le (show ys.length ≤ i by omega)]; rfl)
        go_wp2_with fail
        go_ret
        exact ⟨by rw [HE3.out]; rfl, rfl⟩
    · have d1 : decide ((i : Int) < (xs.length : Int)) = false := decide_eq_false (by omega)
      have d1' : decide (i < xs.length) = false := decide_eq_false c1
      have hd : xs.drop i = [] := List.drop_eq_nil_of_le (by omega)
      by_cases c2 : xs.length < ys.length
      · have g1 : decide ((xs.length : Int) < (ys.length : Int)) = true := decide_eq_true (by omega)
        have g1' : decide (xs.length < ys.length) = true := decide_eq_true c2
        have HE3 := Lib.hid (show cmpL xs ys = -1 by
          rw [HE.out, hd, drop_at (d := []) (show i < ys.length by omega)]; rfl)
        clear hd
        go_wp2_with fail
        go_ret
        exact ⟨by rw [HE3.out]; rfl, rfl⟩
      · have g1 : decide ((xs.length : Int) < (ys.length : Int)) = false := decide_eq_false (by omega)
        have g1' : decide (xs.length < ys.length) = false := decide_eq_false c2
        have HE3 := Lib.hid (show cmpL xs ys = 0 by
          rw [HE.out, hd, List.drop_eq_nil_of_le (show ys.length ≤ i by omega)]; rfl)
        clear hd
        go_wp2_with fail
        go_ret
        exact ⟨by rw [HE3.out]; rfl, rfl⟩
def lessL (a b : Str) : Bool := decide (cmpL (partsOf a) (partsOf b) < 0)
theorem less_any (S T : ByteArray) (w : World) (hs : S.size ≤ 500000) (ht : T.size ≤ 500000) (hm : MaxLen w) : Calls Tryd.prog 18 #[.string S, .string T] w (BoolPost (lessL S.data.toList T.data.toList) w) := by
  have HM := Lib.hid hm
  have HS := Lib.hid (partsOf_le S.data.toList)
  have HT := Lib.hid (partsOf_le T.data.toList)
  have HLs := Lib.hid (show lessL S.data.toList T.data.toList = decide (cmpL (partsOf S.data.toList) (partsOf T.data.toList) < 0) from rfl)
  have eS : S.data.toList.length = S.size := rfl
  have eT : T.data.toList.length = T.size := rfl
  rw [eS] at HS
  rw [eT] at HT
  clear eS eT
  obtain ⟨xs, hxs⟩ : ∃ xs, partsOf S.data.toList = xs := ⟨_, rfl⟩
  obtain ⟨ys, hys⟩ : ∃ ys, partsOf T.data.toList = ys := ⟨_, rfl⟩
  rw [hxs] at HS HLs
  rw [hys] at HT HLs
  have HX := Lib.hid hxs
  have HY := Lib.hid hys
  clear hxs hys hm
  go_enter Tryd.func18, Tryd.ntmps18
  go_wp2_with fail
  refine (parts_any S w hs HM.out).mono ?_
  rintro x w1 ⟨A, c, rfl, hc, hR, h1⟩
  rw [HX.out] at hc hR ⊢
  have H1 := Lib.hid h1
  have HR := Lib.hid hR
  clear h1 hR
  go_wp2_with fail
  refine (parts_any T w1 ht (HM.out.only H1.out)).mono ?_
  rintro x w2 ⟨A2, c2, rfl, hc2, hR2, h2⟩
  rw [HY.out] at hc2 hR2 ⊢
  have H2 := Lib.hid (H1.out.trans' h2)
  have HR1 := Lib.hid (HR.out.only h2)
  have HR2 := Lib.hid hR2
  clear h2 hR2 HR
  go_wp2_with fail
  refine (compare_any c c2 rfl rfl HR1.out HR2.out (by have := HS.out; omega) (by have := HT.out; omega)).mono ?_
  rintro x w3 ⟨rfl, rfl⟩
  obtain ⟨r, hr⟩ : ∃ r, cmpL xs ys = r := ⟨_, rfl⟩
  rw [hr] at HLs ⊢
  clear hr
  go_wp2_with fail
  go_ret
  exact ⟨by rw [HLs.out]; rfl, H2.out⟩
end Go.Proofs.YtkfcflnhffmmmaaDoor.Walks
