/- PathSafe answers true. -/
import Derived.Test.YtkfcflnhffmmmaaDoorLawOrder
import Derived.Test.YtkfcflnhffmmmaaDoorSafe
import Derived.Deep.RegionHeld3
namespace Go.Proofs.YtkfcflnhffmmmaaDoor.Walks
open Go Go.RowKit Go.Proofs.YtkfcflnhffmmmaaDoor.Aid Go.Proofs.YtkfcflnhffmmmaaDoor.Pth Go.Proofs.YtkfcflnhffmmmaaDoor.OwnS Go.Proofs.YtkfcflnhffmmmaaDoorW.PrintWords Go.ChangeShapes Go.WideShapes

theorem clean_idem {l c : Str} (h : cleanL l = some c) : rightL c = true ∧ splitL c = keepL l := by
  have h1 := clean_again h
  have hr : rightL c = true := decide_eq_true h1.1
  refine ⟨hr, ?_⟩
  unfold splitL
  rw [if_pos hr]; exact h1.2
theorem good_ends {xs : List Str} (h : Pth.Good xs) : ∃ (x : UInt8) (n : Nat) (y : UInt8), (joinL xs).length = n + 1 ∧ (joinL xs).getD 0 0 = x ∧ (joinL xs).getD n 0 = y ∧ x ≠ 47 ∧ y ≠ 47 := by
  have hn := good_ne h
  have hl : 0 < (joinL xs).length := List.length_pos_iff.mpr hn
  refine ⟨(joinL xs).getD 0 0, (joinL xs).length - 1, (joinL xs).getD ((joinL xs).length - 1) 0, by omega, rfl, rfl, ?_, ?_⟩
  · have hb := good_bad h
    have := of_decide_eq_false hb
    intro e
    refine this (Or.inr (Or.inl ?_))
    rw [List.head?_eq_getElem?, List.getElem?_eq_getElem hl]
    rw [List.getD_eq_getElem?_getD, List.getElem?_eq_getElem hl] at e
    exact congrArg some e
  · -- the last byte: else the last part were empty
    intro e
    have hp := good_parts h
    rw [List.getD_eq_getElem?_getD, List.getElem?_eq_getElem (by omega), Option.getD_some] at e
    have hsplit : joinL xs = (joinL xs).dropLast ++ [47] := by
      conv => lhs; rw [← List.dropLast_concat_getLast hn]
      rw [List.getLast_eq_getElem, e]
    rw [hsplit, parts_cat] at hp
    have : ([] : Str) ∈ xs := by rw [← hp]; exact List.mem_append_right _ (by simp [partsL])
    exact (h.2 _ this).2.2.1 rfl
theorem keep_take_good {xs : List Str} (h : Pth.Good xs) (hl : (joinL xs).length ≤ 300) (i : Nat) : (joinL (xs.take i)).length ≤ 300 := by
  have h1 := keep_take xs (joinL xs) (good_parts h) i
  rw [show (xs.take i).filter Keep = xs.take i from List.filter_eq_self.2 fun p hp => decide_eq_true ⟨(h.2 p (List.mem_of_mem_take hp)).2.2.1, (h.2 p (List.mem_of_mem_take hp)).2.2.2.1⟩] at h1
  omega
theorem safe_keep {w u u' : World} {a : Addr} {v : Value} (h : u.cell? a = some v ∧ MaxLen u ∧ Only (fun _ => False) w u) (ho : Only (fun _ => False) u u') : u'.cell? a = some v ∧ MaxLen u' ∧ Only (fun _ => False) w u' := ⟨ho.cell h.1 id, h.2.1.only ho, h.2.2.trans' ho⟩
set_option maxRecDepth 100000 in
set_option maxHeartbeats 8000000 in
theorem safe_any (S : ByteArray) (w : World) (hs : S.size ≤ 300) (hm : MaxLen w) : Calls Tryd.prog 5 #[.string S] w (BoolPost true w) := by
  have HM := Lib.hid hm
  have HS := Lib.hid (show S.size ≤ 500000 by omega)
  have a1 : decide ((S.size : Int) > 300) = false := decide_eq_false (by omega)
  have a1' : decide (S.size > 300) = false := decide_eq_false (by omega)
  have hsl : S.data.toList.length ≤ 300 := hs
  clear hm hs
  cases hc : cleanL S.data.toList with
  | none =>
    have HC := Lib.hid (clean_none hc)
    clear hc
    go_enter Tryd.func5, Tryd.ntmps5
    go_wp2_with fail
    refine (clean_any S w HS.out HM.out).mono ?_
    rintro x w1 ⟨rfl, h1⟩
    rw [HC.out.1, HC.out.2]
    have H1 := Lib.hid h1
    clear h1
    go_wp2_with fail
    refine (told_any w1 (HM.out.only H1.out)).mono ?_
    rintro x w2 ⟨rfl, h2⟩
    have H2 := Lib.hid (H1.out.trans' h2)
    clear h2
    go_wp2_with fail
    go_ret
    exact ⟨rfl, H2.out⟩
  | some c =>
    have HC := Lib.hid (clean_some hc)
    obtain ⟨hg, hcj, hc4, _, _⟩ := clean_yes hc
    have hid := clean_idem hc
    have hag := clean_again hc
    obtain ⟨xs, hxs⟩ : ∃ xs, keepL S.data.toList = xs := ⟨_, rfl⟩
    have hcl : c.length ≤ 300 := by rw [hcj]; have := keep_len S.data.toList; omega
    rw [hxs] at hg hcj hid
    obtain ⟨x0, n, y0, hn, hx0, hy0, hx47, hy47⟩ := good_ends hg
    rw [← hcj] at hn hx0 hy0
    obtain ⟨C, hC⟩ : ∃ C, B c = C := ⟨_, rfl⟩
    have hCd : C.data.toList = c := by rw [← hC, B_data]
    have hsz : C.size = n + 1 := by rw [← hC, B_size, hn]
    have i0 := index_at (S := C) (i := 0) (by omega)
    have i1 := index_at (S := C) (i := n) (by omega)
    rw [hCd, hx0] at i0
    rw [hCd, hy0] at i1
    have f0 : ((x0.toNat : Int) == 47) = false := beq_eq_false_iff_ne.mpr (fun e => hx47 (UInt8.toNat.inj (by exact_mod_cast e)))
    have f1 : ((y0.toNat : Int) == 47) = false := beq_eq_false_iff_ne.mpr (fun e => hy47 (UInt8.toNat.inj (by exact_mod_cast e)))
    have f2 : C.toList.isEmpty = false := by rw [← hC, isEmpty_B]; exact decide_eq_false (fun e => by rw [e] at hn; cases hn)
    have f3 : (C.toList != C.toList) = false := bne_self_eq_false _
    have f4 : (C.toList == C.toList) = true := beq_self_eq_true _
    have b0 : (n : Int) ≤ 300 := by omega
    have HCc := Lib.hid (show cleanS C = C ∧ cleanB C = true by
      have := clean_some (S := C) (c := c) (by rw [hCd]; exact hag.1)
      rw [hC] at this; exact this)
    have HRt := Lib.hid (show rightL C.data.toList = true by rw [hCd]; exact hid.1)
    have HSp := Lib.hid (show splitL C.data.toList = xs by rw [hCd]; exact hid.2)
    have HG := Lib.hid hg
    have HCj := Lib.hid (show C = B (joinL xs) by rw [← hC, hcj])
    have HCs := Lib.hid (show C.size ≤ 300 by omega)
    rw [hC] at HC
    clear hc hg hcj hc4 hid hag hxs hcl hn hx0 hy0 hx47 hy47 hC hCd hsl
    go_enter Tryd.func5, Tryd.ntmps5
    go_wp2_with fail
    refine (clean_any S w HS.out HM.out).mono ?_
    rintro x w1 ⟨rfl, h1⟩
    rw [HC.out.1, HC.out.2]
    have H1 := Lib.hid h1
    clear h1
    go_wp2_with fail
    refine (clean_any C w1 (by have := HCs.out; omega) (HM.out.only H1.out)).mono ?_
    rintro x w2 ⟨rfl, h2⟩
    rw [HCc.out.1, HCc.out.2]
    have H2 := Lib.hid (H1.out.trans' h2)
    clear h2 H1
    go_wp2_with fail
    refine (right_any C w2 (by have := HCs.out; omega) (HM.out.only H2.out)).mono ?_
    rintro x w3 ⟨rfl, h3⟩
    rw [HRt.out]
    have H3 := Lib.hid (H2.out.trans' h3)
    clear h3 H2
    go_wp2_with fail
    refine (split_right C w3 (by have := HCs.out; omega) (HM.out.only H3.out)).mono ?_
    rintro x w4 ⟨A, k, rfl, hk, hR, h4⟩
    rw [HSp.out] at hk hR ⊢
    have HR := Lib.hid hR
    have H4 := Lib.hid (H3.out.trans' h4)
    have HXl := Lib.hid (show xs.length ≤ 301 by rw [← HSp.out]; have := splitL_le C.data.toList; have e : C.data.toList.length = C.size := rfl; have := HCs.out; omega)
    have HJl := Lib.hid (fun i => keep_take_good HG.out (show (joinL xs).length ≤ 300 by have := HCs.out; rw [HCj.out, B_size] at this; exact this) i)
    clear hR h4 H3 i0 i1 f0 f1 f3 hsz
    go_wp2_with fail
    go_loopw [8, 9] (fun v8 v9 u => ∃ i : Nat, v9 = .int .i64 (i : Int) ∧ v8 = .string (B (joinL (xs.take i))) ∧ i ≤ xs.length ∧ u = w4) (fun _ i _ => xs.length - (intOf i).toNat)
    case atStart => exact ⟨0, rfl, rfl, by omega, rfl⟩
    case round =>
      obtain ⟨i, rfl, rfl, hi, rfl⟩ := hrel
      by_cases c1 : i < xs.length
      · have d1 : decide ((i : Int) < (xs.length : Int)) = true := decide_eq_true (by omega)
        have d1' : decide (i < xs.length) = true := decide_eq_true c1
        have d2 : (i : Int) < (xs.length : Int) := by omega
        have b1 : (i : Int) ≤ 301 := by have := HXl.out; omega
        obtain ⟨ad, rfl, hcell⟩ := HR.out (by rw [List.length_map]; omega)
        have c0 := hcell i (by rw [List.length_map]; exact c1)
        rw [getD_map c1] at c0
        obtain ⟨p, hp⟩ : ∃ p, xs.getD i [] = p := ⟨_, rfl⟩
        rw [hp] at c0
        have hgp := HG.out.2 p (by rw [← hp, List.getD_eq_getElem?_getD, List.getElem?_eq_getElem c1]; exact List.getElem_mem c1)
        have HT := Lib.hid (take_snoc c1 hp)
        obtain ⟨P, hP⟩ : ∃ P, B p = P := ⟨_, rfl⟩
        rw [hP] at c0
        have e4 : P.toList.isEmpty = false := by rw [← hP, isEmpty_B]; exact decide_eq_false hgp.2.2.1
        have e5 : (P.toList == ([46] : List UInt8)) = false := by rw [← hP, toList_B, beq_decide]; exact decide_eq_false hgp.2.2.2.1
        have e6 : (P.toList == ([46, 46] : List UInt8)) = false := by rw [← hP, toList_B, beq_decide]; exact decide_eq_false hgp.2.2.2.2
        have HPd := Lib.hid (show P.data.toList = p by rw [← hP, B_data])
        have HJs := Lib.hid (show joinL (xs.take (i + 1)) = if i = 0 then p else joinL (xs.take i) ++ [47] ++ p by
          rw [HT.out, joinL_snoc]
          by_cases z : i = 0
          · rw [if_pos z, if_pos (by rw [z]; rfl)]
          · rw [if_neg z, if_neg (fun e => by have := congrArg List.length e; rw [List.length_take, List.length_nil] at this; omega)])
        have HPl := Lib.hid (show P.size ≤ 300 by
          have h := HJl.out (i + 1)
          rw [HJs.out] at h
          rw [← hP, B_size]
          split at h
          · exact h
          · rw [List.length_append] at h; omega)
        have HJi := Lib.hid (show (B (joinL (xs.take i))).size ≤ 300 by rw [B_size]; exact HJl.out i)
        obtain ⟨j, hj⟩ : ∃ j, joinL (xs.take i) = j := ⟨_, rfl⟩
        rw [hj] at HJs HJi ⊢
        obtain ⟨J, hJ⟩ : ∃ J, B j = J := ⟨_, rfl⟩
        rw [hJ] at HJi ⊢
        have HJJ := Lib.hid hJ
        have hj0 : i = 0 → j = [] := fun z => by rw [← hj, z]; rfl
        have HJ0 := Lib.hid hj0
        clear hj0
        have HPp := Lib.hid hP
        have HGp := Lib.hid hgp
        clear hcell hp hP hgp hj hJ
        go_wp2_with fail
        go_loopw [10] (fun v10 u => ∃ k : Nat, v10 = .int .i64 (k : Int) ∧ k ≤ P.size ∧ u = wr) (fun k _ => P.size - (intOf k).toNat)
        case atStart => exact ⟨0, rfl, by omega, rfl⟩
        case round =>
          obtain ⟨k, rfl, hk2, rfl⟩ := hrel
          by_cases c2 : k < P.size
          · have g1 : decide ((k : Int) < (P.size : Int)) = true := decide_eq_true (by omega)
            have g1' : decide (k < P.size) = true := decide_eq_true c2
            have g2 : (k : Int) < (P.size : Int) := by omega
            have hx := index_at c2
            rw [HPd.out] at hx
            obtain ⟨x, hxx⟩ : ∃ x, p.getD k 0 = x := ⟨_, rfl⟩
            rw [hxx] at hx
            have hm : x ∈ p := by
              have : k < p.length := by rw [← HPd.out]; exact c2
              rw [← hxx, List.getD_eq_getElem?_getD, List.getElem?_eq_getElem this]; exact List.getElem_mem this
            have g3 : ((x.toNat : Int) == 47) = false := beq_eq_false_iff_ne.mpr (fun e => HGp.out.1 (by rw [show (47 : UInt8) = x from (UInt8.toNat.inj (by exact_mod_cast e)).symm]; exact hm))
            have g4 : ((x.toNat : Int) == 0) = false := beq_eq_false_iff_ne.mpr (fun e => HGp.out.2.1 (by rw [show (0 : UInt8) = x from (UInt8.toNat.inj (by exact_mod_cast e)).symm]; exact hm))
            have b2 : (k : Int) ≤ 300 := by have := HPl.out; omega
            clear hm hxx
            go_wp2_with fail
            exact ⟨⟨k + 1, by simp, by omega, by trivial⟩, by simp [intOf]; omega⟩
          · have g1 : decide ((k : Int) < (P.size : Int)) = false := decide_eq_false (by omega)
            have g1' : decide (k < P.size) = false := decide_eq_false c2
            by_cases z : i = 0
            · have z1 : decide ((i : Int) > 0) = false := decide_eq_false (by omega)
              have z1' : decide (0 < i) = false := decide_eq_false (by omega)
              have s1 : ¬ (J.size + P.size > 9223372036854775807) := by have := HJi.out; have := HPl.out; omega
              have HC2 := Lib.hid (show J ++ P = B (joinL (xs.take (i + 1))) by
                rw [HJs.out, if_pos z, ← HJJ.out, ← HPp.out, concat_B, B_data, B_data]
                rw [HJ0.out z]; rfl)
              clear z
              go_wp2_with fail
              exact ⟨⟨i + 1, by simp, by rw [HC2.out], by omega, by trivial⟩, by simp [intOf]; omega⟩
            · have z1 : decide ((i : Int) > 0) = true := decide_eq_true (by omega)
              have z1' : decide (0 < i) = true := decide_eq_true (by omega)
              have s1 : ¬ (J.size + 1 > 9223372036854775807) := by have := HJi.out; omega
              have s2 : ¬ (J.size + 1 + P.size > 9223372036854775807) := by have := HJi.out; have := HPl.out; omega
              have HC2 := Lib.hid (show J ++ ⟨#[47]⟩ ++ P = B (joinL (xs.take (i + 1))) by
                rw [HJs.out, if_neg z, ← HJJ.out, ← HPp.out, concat_B, concat_B, B_data, B_data, B_data])
              clear z
              go_wp2_with fail
              exact ⟨⟨i + 1, by simp, by rw [← HC2.out], by omega, by trivial⟩, by simp [intOf]; omega⟩
      · have d1 : decide ((i : Int) < (xs.length : Int)) = false := decide_eq_false (by omega)
        have d1' : decide (i < xs.length) = false := decide_eq_false c1
        obtain rfl : i = xs.length := by omega
        rw [List.take_length, ← HCj.out]
        have hne : 0 < xs.length := List.length_pos_iff.mpr HG.out.1
        obtain ⟨m, hm⟩ : ∃ m, xs.length = m + 1 := ⟨xs.length - 1, by omega⟩
        obtain ⟨ad, rfl, hcell⟩ := HR.out (by rw [List.length_map]; omega)
        have c0 := hcell m (by rw [List.length_map]; omega)
        rw [getD_map (by omega)] at c0
        have HLa := Lib.hid (show B (lastL C.data.toList) = B (xs.getD m []) by
          unfold lastL
          rw [HSp.out, List.getLastD_eq_getLast?, List.getLast?_eq_getElem?, hm, Nat.add_sub_cancel, List.getD_eq_getElem?_getD, List.getElem?_eq_getElem (by omega)])
        obtain ⟨Q, hQ⟩ : ∃ Q, B (xs.getD m []) = Q := ⟨_, rfl⟩
        rw [hQ] at c0 HLa
        have z1 : decide ((xs.length : Int) > 0) = true := decide_eq_true (by omega)
        have z1' : decide (0 < xs.length) = true := decide_eq_true hne
        have q1 : (Q.toList == Q.toList) = true := beq_self_eq_true _
        have q2 : (m : Int) < ((m : Int) + 1) := by omega
        have b2 : (m : Int) ≤ 301 := by have := HXl.out; omega
        have wm : IntKind.i64.wrap (m : Int) = (m : Int) := by rw [IntKind.wrap_i64]; omega
        have hS0 : wr.drew.cell? (ad.add m) = some (.string Q) ∧ MaxLen wr.drew ∧ Only (fun _ => False) w wr.drew := ⟨c0, HM.out.only H4.out.drew, H4.out.drew⟩
        rw [hm] at hk z1 z1' ⊢
        clear hcell hQ c1 d1 d1' hi
        go_wp2_with fail
        go_region_held3 (fun w' => w'.cell? (ad.add m) = some (.string Q) ∧ MaxLen w' ∧ Only (fun _ => False) w w') (first | exact hS0 | exact safe_keep (by assumption) (by assumption)) (first
          | (fail)
          | (go_at_call 8; refine (told_any _ (show _ ∧ MaxLen _ ∧ Only _ _ _ by assumption).2.1).mono ?_; rintro e w8 ⟨rfl, h8⟩)
          | (go_at_call 16; refine (last_any C _ (by have := HCs.out; omega) (show _ ∧ MaxLen _ ∧ Only _ _ _ by assumption).2.1).mono ?_; rintro e w9 ⟨rfl, h9⟩; rw [HLa.out]))
        all_goals (
          have hE := (show _ ∧ MaxLen _ ∧ Only _ _ _ by assumption).2.2
          have HE := Lib.hid hE
          clear hE
          go_wp2_with fail
          go_ret
          exact ⟨rfl, HE.out⟩)
theorem lawSafe {H : Type} {enc : TypeId × Value → H} {W : World} {base : Nat} {v0 : Value} {d0 : DataW H} {p0 : List MemPlace} {ts : List TypeId} {ds : List (DataW H)} (hm : MaxLen W)
    (ov0 : Value.okWide Tryd.prog W .any base 9 v0) (k0 : DataW.Trod enc Tryd.prog W 0 (fun _ => true) true 9 v0 d0 p0)
    (_ : (DataW.weightsEach Tryd.prog ts ds).all (· ≤ reachBytes) = true) :
    Calls Tryd.prog 5 #[v0] W fun e w' => e = .returned (.bool true) ∧ Below W.heap.size W w' := by
  obtain ⟨S, rfl, _, _, wS⟩ := Go.ChangeMaps.open_string Tryd.underlying9 ov0 k0
  by_cases hs : S.size ≤ 300
  · exact (safe_any S W hs hm).mono fun x w' h => ⟨h.1, h.2.none⟩
  · have h1 : decide ((S.size : Int) > 300) = true := decide_eq_true (by omega)
    have h1' : decide (S.size > 300) = true := decide_eq_true (by omega)
    have HM := Lib.hid hm
    clear k0 ov0 hm
    go_enter Tryd.func5, Tryd.ntmps5
    go_wp2_with fail
    refine (told_any _ HM.out).mono ?_
    rintro x w4 ⟨rfl, hb4⟩
    go_wp2_with fail
    go_ret
    exact ⟨rfl, hb4.none⟩
end Go.Proofs.YtkfcflnhffmmmaaDoor.Walks
