/- PathJoins answers true. -/
import Derived.Test.YtkfcflnhffmmmaaDoorLawSafe
namespace Go.Proofs.YtkfcflnhffmmmaaDoor.Walks
open Go Go.RowKit Go.Proofs.YtkfcflnhffmmmaaDoor.Aid Go.Proofs.YtkfcflnhffmmmaaDoor.Pth Go.Proofs.YtkfcflnhffmmmaaDoor.OwnS Go.Proofs.YtkfcflnhffmmmaaDoorW.PrintWords Go.ChangeShapes Go.WideShapes

def mids : Nat → Str
  | 0 => [47]
  | 1 => [47, 47]
  | 2 => [47, 46, 47]
  | 3 => [47, 46, 47, 46, 47]
  | _ => [47, 47, 47]
def midp : Nat → List Str
  | 0 => []
  | 1 => [[]]
  | 2 => [[46]]
  | 3 => [[46], [46]]
  | _ => [[], []]
theorem mids_parts (k : Nat) (hk : k ≤ 4) (a b : Str) : partsL ([46, 47] ++ a ++ mids k ++ b ++ [47]) = [[46]] ++ partsL a ++ midp k ++ partsL b ++ [[]] := by
  have e0 : ∀ t : Str, partsL ([46, 47] ++ a ++ (47 :: t)) = [[46]] ++ partsL a ++ partsL t := fun t => by
    rw [show [46, 47] ++ a ++ (47 :: t) = [46] ++ 47 :: (a ++ 47 :: t) by simp, parts_cat, parts_cat]
    simp [partsL]
  have e1 : partsL (b ++ [47]) = partsL b ++ [[]] := by rw [parts_cat b []]; rfl
  have e2 : ∀ t : Str, partsL (47 :: t) = [] :: partsL t := partsL_slash
  have e3 : ∀ t : Str, partsL (46 :: 47 :: t) = [46] :: partsL t := fun t => by rw [show (46 : UInt8) :: 47 :: t = [46] ++ 47 :: t from rfl, parts_cat]; rfl
  rcases (show k = 0 ∨ k = 1 ∨ k = 2 ∨ k = 3 ∨ k = 4 by omega) with rfl | rfl | rfl | rfl | rfl
  · rw [show [46, 47] ++ a ++ mids 0 ++ b ++ [47] = [46, 47] ++ a ++ (47 :: (b ++ [47])) by simp [mids], e0, e1]; simp [midp]
  · rw [show [46, 47] ++ a ++ mids 1 ++ b ++ [47] = [46, 47] ++ a ++ (47 :: (47 :: (b ++ [47]))) by simp [mids], e0, e2, e1]; simp [midp]
  · rw [show [46, 47] ++ a ++ mids 2 ++ b ++ [47] = [46, 47] ++ a ++ (47 :: (46 :: 47 :: (b ++ [47]))) by simp [mids], e0, e3, e1]; simp [midp]
  · rw [show [46, 47] ++ a ++ mids 3 ++ b ++ [47] = [46, 47] ++ a ++ (47 :: (46 :: 47 :: (46 :: 47 :: (b ++ [47])))) by simp [mids], e0, e3, e3, e1]; simp [midp]
  · rw [show [46, 47] ++ a ++ mids 4 ++ b ++ [47] = [46, 47] ++ a ++ (47 :: (47 :: (47 :: (b ++ [47])))) by simp [mids], e0, e2, e2, e1]; simp [midp]
theorem midp_keep (k : Nat) : (midp k).filter Keep = [] ∧ ([46, 46] : Str) ∉ midp k := by
  unfold midp
  split <;> exact ⟨by decide, by decide⟩
theorem mids_ok (k : Nat) : (0 : UInt8) ∉ mids k ∧ (mids k).length ≤ 5 := by
  unfold mids
  split <;> exact ⟨by decide, by decide⟩
theorem join_cat : ∀ {xs ys : List Str}, xs ≠ [] → ys ≠ [] → joinL (xs ++ ys) = joinL xs ++ 47 :: joinL ys
  | [], _, h, _ => absurd rfl h
  | [x], [], _, h => absurd rfl h
  | [x], y :: r, _, _ => by rw [List.singleton_append, join_two, join_one]
  | x :: z :: r, ys, _, h => by
    rw [List.cons_append, List.cons_append, join_two, join_two, ← List.cons_append, join_cat (by simp) h]
    simp
theorem good_cat {xs ys : List Str} (h : Pth.Good xs) (k : Pth.Good ys) : Pth.Good (xs ++ ys) := ⟨by simp [h.1], fun p hp => (List.mem_append.1 hp).elim (h.2 p) (k.2 p)⟩
theorem bad_zero {l : Str} (h : Bad l = false) : (0 : UInt8) ∉ l := fun e => of_decide_eq_false h (Or.inr (Or.inr e))
theorem joins {a b x y : Str} {k : Nat} (hk : k ≤ 4) (ha : cleanL a = some x) (hb : cleanL b = some y) (la : a.length ≤ 100) (lb : b.length ≤ 100) :
    cleanL ([46, 47] ++ a ++ mids k ++ b ++ [47]) = some (x ++ 47 :: y) ∧ rightL (x ++ 47 :: y) = true ∧ lessL x (x ++ 47 :: y) = true ∧ x.length ≤ 100 ∧ y.length ≤ 100 := by
  obtain ⟨ga, ex, _, ba, da⟩ := clean_yes ha
  obtain ⟨gb, ey, _, bb, db⟩ := clean_yes hb
  have lx : x.length ≤ 100 := by rw [ex]; have := keep_len a; omega
  have ly : y.length ≤ 100 := by rw [ey]; have := keep_len b; omega
  have gg := good_cat ga gb
  have ej : joinL (keepL a ++ keepL b) = x ++ 47 :: y := by rw [join_cat ga.1 gb.1, ← ex, ← ey]
  have hl : (joinL (keepL a ++ keepL b)).length ≤ 4096 := by rw [ej, List.length_append, List.length_cons]; omega
  have hr : cleanL (x ++ 47 :: y) = some (x ++ 47 :: y) := by rw [← ej]; exact good_clean gg hl
  have hright : rightL (x ++ 47 :: y) = true := decide_eq_true hr
  refine ⟨?_, hright, ?_, lx, ly⟩
  · have hp := mids_parts k hk a b
    have hkeep : keepL ([46, 47] ++ a ++ mids k ++ b ++ [47]) = keepL a ++ keepL b := by
      unfold keepL
      rw [hp]
      simp only [List.filter_append, (midp_keep k).1]
      simp [Keep]
    unfold cleanL
    rw [hkeep, ej, if_neg, if_neg, if_neg]
    · rintro (e | e)
      · simp at e
      · rw [← ej] at e; omega
    · rw [hp]
      simp only [List.mem_append, not_or]
      exact ⟨⟨⟨⟨by decide, da⟩, (midp_keep k).2⟩, db⟩, by decide⟩
    · rw [Bool.not_eq_true]
      refine decide_eq_false ?_
      rintro (e | e | e)
      · simp at e
      · simp at e
      · simp only [List.mem_append] at e
        rcases e with (((e | e) | e) | e) | e
        · exact absurd e (by decide)
        · exact bad_zero ba e
        · exact (mids_ok k).1 e
        · exact bad_zero bb e
        · exact absurd e (by decide)
  · have hsx : splitL x = keepL a := by have := clean_idem ha; exact this.2
    have hsz : splitL (x ++ 47 :: y) = keepL a ++ keepL b := by
      unfold splitL
      rw [hright, if_pos rfl, ← ej, good_parts gg]
    unfold lessL partsOf
    rw [hsx, hsz, if_neg ga.1, if_neg gg.1]
    refine decide_eq_true ?_
    have : ∀ (xs ys : List Str), ys ≠ [] → cmpL xs (xs ++ ys) < 0 := fun xs => by
      induction xs with
      | nil => intro ys h; cases ys with
        | nil => exact absurd rfl h
        | cons y r => simp [cmpL]
      | cons p r ih => intro ys h; rw [List.cons_append, cmpL, if_pos (cmpS_self p)]; exact ih ys h
    exact this _ _ gb.1
theorem five_at (n : Int) : ∃ k : Nat, k ≤ 4 ∧ wrap64 ((IntKind.u64.wrap n).tmod 5) = (k : Int) := by
  have h0 : 0 ≤ IntKind.u64.wrap n := by rw [u64_wrap]; omega
  generalize IntKind.u64.wrap n = x at *
  rw [tmod_pos h0]
  refine ⟨(x % 5).toNat, by omega, ?_⟩
  rw [wrap64_in (by omega) (by omega)]; omega
set_option maxRecDepth 100000 in
set_option maxHeartbeats 8000000 in
theorem joins_any (S T : ByteArray) (n : Int) (w : World) (hs : S.size ≤ 100) (ht : T.size ≤ 100) (hm : MaxLen w) : Calls Tryd.prog 6 #[.string S, .string T, .int .i64 n] w (BoolPost true w) := by
  have HM := Lib.hid hm
  have HS := Lib.hid (show S.size ≤ 500000 by omega)
  have HT := Lib.hid (show T.size ≤ 500000 by omega)
  have HSd := Lib.hid (show S.data.toList.length ≤ 100 from hs)
  have HTd := Lib.hid (show T.data.toList.length ≤ 100 from ht)
  have a1 : decide ((S.size : Int) > 100) = false := decide_eq_false (by omega)
  have a1' : decide (S.size > 100) = false := decide_eq_false (by omega)
  have a2 : decide ((T.size : Int) > 100) = false := decide_eq_false (by omega)
  have a2' : decide (T.size > 100) = false := decide_eq_false (by omega)
  have b1 : (S.size : Int) ≤ 100 := by omega
  have b2 : (T.size : Int) ≤ 100 := by omega
  clear hm hs ht
  by_cases hk : cleanB S = true ∧ cleanB T = true
  · obtain ⟨x, hx⟩ : ∃ x, cleanL S.data.toList = some x := Option.isSome_iff_exists.1 hk.1
    obtain ⟨y, hy⟩ : ∃ y, cleanL T.data.toList = some y := Option.isSome_iff_exists.1 hk.2
    obtain ⟨k, hk4, ek⟩ := five_at n
    have HCS := Lib.hid (clean_some hx)
    have HCT := Lib.hid (clean_some hy)
    have hJ := joins hk4 hx hy HSd.out HTd.out
    obtain ⟨X, hX⟩ : ∃ X, B x = X := ⟨_, rfl⟩
    obtain ⟨Y, hY⟩ : ∃ Y, B y = Y := ⟨_, rfl⟩
    obtain ⟨M, hM⟩ : ∃ M, B (mids k) = M := ⟨_, rfl⟩
    have HZ := Lib.hid (show X ++ ⟨#[47]⟩ ++ Y = B (x ++ 47 :: y) by rw [← hX, ← hY, concat_B, concat_B, B_data, B_data, B_data]; congr 1; simp)
    have HW := Lib.hid (show ⟨#[46, 47]⟩ ++ S ++ M ++ T ++ ⟨#[47]⟩ = B ([46, 47] ++ S.data.toList ++ mids k ++ T.data.toList ++ [47]) by
      rw [← hM, concat_B, concat_B, concat_B, concat_B, B_data, B_data, B_data, B_data])
    obtain ⟨Z, hZ⟩ : ∃ Z, X ++ ⟨#[47]⟩ ++ Y = Z := ⟨_, rfl⟩
    have HZd := Lib.hid (show Z.data.toList = x ++ 47 :: y by rw [← hZ, HZ.out, B_data])
    have HXd := Lib.hid (show X.data.toList = x by rw [← hX, B_data])
    have HXs := Lib.hid (show X.size ≤ 100 by rw [← hX, B_size]; exact hJ.2.2.2.1)
    have HYs := Lib.hid (show Y.size ≤ 100 by rw [← hY, B_size]; exact hJ.2.2.2.2)
    have HMs := Lib.hid (show M.size ≤ 5 by rw [← hM, B_size]; exact (mids_ok k).2)
    have HZs := Lib.hid (show Z.size ≤ 300 by rw [← hZ, ByteArray.size_append, ByteArray.size_append]; have := HXs.out; have := HYs.out; show X.size + 1 + Y.size ≤ 300; omega)
    have HC := Lib.hid (clean_some (S := ⟨#[46, 47]⟩ ++ S ++ M ++ T ++ ⟨#[47]⟩) (c := x ++ 47 :: y) (by rw [HW.out, B_data]; exact hJ.1))
    have HZB := Lib.hid (show B (x ++ 47 :: y) = Z by rw [← HZ.out, hZ])
    have HRi := Lib.hid (show rightL Z.data.toList = true by rw [HZd.out]; exact hJ.2.1)
    have HLe := Lib.hid (show lessL X.data.toList Z.data.toList = true by rw [HXd.out, HZd.out]; exact hJ.2.2.1)
    have s1 : ¬ (2 + S.size > 9223372036854775807) := by omega
    have s2 : ¬ (2 + S.size + M.size > 9223372036854775807) := by have := HMs.out; omega
    have s3 : ¬ (2 + S.size + M.size + T.size > 9223372036854775807) := by have := HMs.out; omega
    have s4 : ¬ (2 + S.size + M.size + T.size + 1 > 9223372036854775807) := by have := HMs.out; omega
    have s5 : ¬ (X.size + 1 > 9223372036854775807) := by have := HXs.out; omega
    have s6 : ¬ (X.size + 1 + Y.size > 9223372036854775807) := by have := HXs.out; have := HYs.out; omega
    have z1 : (Z.toList == Z.toList) = true := beq_self_eq_true _
    have HMm := Lib.hid hM
    rw [hX] at HCS
    rw [hY] at HCT
    have HWs := Lib.hid (show (⟨#[46, 47]⟩ ++ S ++ M ++ T ++ ⟨#[47]⟩ : ByteArray).size ≤ 500000 by
      simp only [ByteArray.size_append]; have := HMs.out; show 2 + S.size + M.size + T.size + 1 ≤ 500000; omega)
    have HZz := Lib.hid hZ
    clear hk hx hy hJ hX hY hM hZ
    go_enter Tryd.func6, Tryd.ntmps6
    go_wp2_with fail
    refine (clean_any S w HS.out HM.out).mono ?_
    rintro x w1 ⟨rfl, h1⟩
    rw [HCS.out.1, HCS.out.2]
    have H1 := Lib.hid h1
    clear h1
    go_wp2_with fail
    refine (clean_any T w1 HT.out (HM.out.only H1.out)).mono ?_
    rintro x w2 ⟨rfl, h2⟩
    rw [HCT.out.1, HCT.out.2]
    have H2 := Lib.hid (H1.out.trans' h2)
    clear h2 H1
    go_upto_region 7 with (fail)
    go_cut [11] (fun v11 wc => v11 = .string M ∧ Hid (Only (fun _ => False) w wc))
    case first =>
      rcases (show k = 0 ∨ k = 1 ∨ k = 2 ∨ k = 3 ∨ k = 4 by omega) with rfl | rfl | rfl | rfl | rfl
      all_goals (
        go_wp2_with fail
        go_meet
        case rel => exact ⟨by rw [← HMm.out]; rfl, Lib.hid (H2.out.alloc _)⟩)
    case rest =>
      obtain ⟨rfl, H3⟩ := hcut
      clear H2
      go_wp2_with fail
      refine (clean_any _ wc HWs.out (HM.out.only H3.out)).mono ?_
      rintro x w4 ⟨rfl, h4⟩
      rw [HC.out.1, HC.out.2, HZB.out]
      have H4 := Lib.hid (H3.out.trans' h4)
      clear h4 H3
      go_wp2_with fail
      refine (told_any w4 (HM.out.only H4.out)).mono ?_
      rintro x w5 ⟨rfl, h5⟩
      have H5 := Lib.hid (H4.out.trans' h5)
      clear h5 H4
      have z2 : (Z.toList == (X ++ ⟨#[47]⟩ ++ Y).toList) = true := by rw [HZz.out]; exact z1
      go_wp2_with fail
      rw [HZz.out]
      refine (right_any Z w5 (by have := HZs.out; omega) (HM.out.only H5.out)).mono ?_
      rintro x w6 ⟨rfl, h6⟩
      rw [HRi.out]
      have H6 := Lib.hid (H5.out.trans' h6)
      clear h6 H5
      go_wp2_with fail
      refine (less_any X Z w6 (by have := HXs.out; omega) (by have := HZs.out; omega) (HM.out.only H6.out)).mono ?_
      rintro x w7 ⟨rfl, h7⟩
      rw [HLe.out]
      have H7 := Lib.hid (H6.out.trans' h7)
      clear h7 H6
      go_wp2_with fail
      go_ret
      exact ⟨rfl, H7.out⟩
  · obtain ⟨cs, hcs⟩ : ∃ cs, cleanS S = cs := ⟨_, rfl⟩
    obtain ⟨ct, hct⟩ : ∃ ct, cleanS T = ct := ⟨_, rfl⟩
    obtain ⟨bs, hbs⟩ : ∃ bs, cleanB S = bs := ⟨_, rfl⟩
    obtain ⟨bt, hbt⟩ : ∃ bt, cleanB T = bt := ⟨_, rfl⟩
    rw [hbs, hbt] at hk
    have HCs := Lib.hid hcs
    have HCt := Lib.hid hct
    have HBs := Lib.hid hbs
    have HBt := Lib.hid hbt
    have HK := Lib.hid hk
    clear hcs hct hbs hbt hk
    go_enter Tryd.func6, Tryd.ntmps6
    go_wp2_with fail
    refine (clean_any S w HS.out HM.out).mono ?_
    rintro x w1 ⟨rfl, h1⟩
    rw [HCs.out, HBs.out]
    have H1 := Lib.hid h1
    clear h1
    go_wp2_with fail
    refine (clean_any T w1 HT.out (HM.out.only H1.out)).mono ?_
    rintro x w2 ⟨rfl, h2⟩
    rw [HCt.out, HBt.out]
    have H2 := Lib.hid (H1.out.trans' h2)
    clear h2 H1
    cases bs with
    | true =>
      cases bt with
      | true => exact absurd ⟨rfl, rfl⟩ HK.out
      | false =>
        go_wp2_with fail
        refine (told_any w2 (HM.out.only H2.out)).mono ?_
        rintro x w3 ⟨rfl, h3⟩
        have H3 := Lib.hid (H2.out.trans' h3)
        clear h3
        go_wp2_with fail
        go_ret
        exact ⟨rfl, H3.out⟩
    | false =>
      go_wp2_with fail
      refine (told_any w2 (HM.out.only H2.out)).mono ?_
      rintro x w3 ⟨rfl, h3⟩
      have H3 := Lib.hid (H2.out.trans' h3)
      clear h3
      go_wp2_with fail
      go_ret
      exact ⟨rfl, H3.out⟩
theorem lawJoins {H : Type} {enc : TypeId × Value → H} {W : World} {base : Nat} {v0 v1 v2 : Value} {d0 d1 d2 : DataW H} {p0 p1 p2 : List MemPlace} {ts : List TypeId} {ds : List (DataW H)} (hm : MaxLen W)
    (ov0 : Value.okWide Tryd.prog W .any base 9 v0) (k0 : DataW.Trod enc Tryd.prog W 0 (fun _ => true) true 9 v0 d0 p0)
    (ov1 : Value.okWide Tryd.prog W .any base 9 v1) (k1 : DataW.Trod enc Tryd.prog W 0 (fun _ => true) true 9 v1 d1 p1)
    (ov2 : Value.okWide Tryd.prog W .any base 3 v2) (k2 : DataW.Trod enc Tryd.prog W 0 (fun _ => true) true 3 v2 d2 p2)
    (_ : (DataW.weightsEach Tryd.prog ts ds).all (· ≤ reachBytes) = true) :
    Calls Tryd.prog 6 #[v0, v1, v2] W fun e w' => e = .returned (.bool true) ∧ Below W.heap.size W w' := by
  obtain ⟨S, rfl, _, _, wS⟩ := Go.ChangeMaps.open_string Tryd.underlying9 ov0 k0
  obtain ⟨T, rfl, _, _, wT⟩ := Go.ChangeMaps.open_string Tryd.underlying9 ov1 k1
  obtain ⟨n, rfl, _, _, _⟩ := open_int Tryd.underlying3 ov2 k2
  have HM := Lib.hid hm
  clear k0 k1 k2 ov0 ov1 ov2 hm
  by_cases hs : S.size ≤ 100
  · by_cases ht : T.size ≤ 100
    · exact (joins_any S T n W hs ht HM.out).mono fun x w' h => ⟨h.1, h.2.none⟩
    · have a1 : decide ((S.size : Int) > 100) = false := decide_eq_false (by omega)
      have a1' : decide (S.size > 100) = false := decide_eq_false (by omega)
      have a2 : decide ((T.size : Int) > 100) = true := decide_eq_true (by omega)
      have a2' : decide (T.size > 100) = true := decide_eq_true (by omega)
      go_enter Tryd.func6, Tryd.ntmps6
      go_wp2_with fail
      refine (told_any _ HM.out).mono ?_
      rintro x w4 ⟨rfl, hb4⟩
      go_wp2_with fail
      go_ret
      exact ⟨rfl, hb4.none⟩
  · have a1 : decide ((S.size : Int) > 100) = true := decide_eq_true (by omega)
    have a1' : decide (S.size > 100) = true := decide_eq_true (by omega)
    go_enter Tryd.func6, Tryd.ntmps6
    go_wp2_with fail
    refine (told_any _ HM.out).mono ?_
    rintro x w4 ⟨rfl, hb4⟩
    go_wp2_with fail
    go_ret
    exact ⟨rfl, hb4.none⟩
end Go.Proofs.YtkfcflnhffmmmaaDoor.Walks
