/- UstarBack: the law's function says yes of every header, place and byte. -/
import Derived.Test.YtggjdfnkmhlliaaDoorOpenH
namespace Go.Proofs.YtggjdfnkmhlliaaDoor.Walks
open Go Go.RowKit Go.Proofs.YtggjdfnkmhlliaaDoor.Aid Go.Proofs.YtggjdfnkmhlliaaDoor.Own Go.Proofs.YtggjdfnkmhlliaaDoorW.PrintWords

theorem put_cases (H : Hdr) : (∃ e, putL H = ([], e) ∧ e ≠ 0) ∨ (putL H = (bodyP H, 0) ∧ fitAll H = true ∧ numAll H = true) := by
  unfold putL
  by_cases c1 : fitAll H = true
  · rw [if_pos c1]
    by_cases c2 : numAll H = true
    · rw [if_pos c2]; exact Or.inr ⟨rfl, c1, c2⟩
    · rw [if_neg c2]; exact Or.inl ⟨7, rfl, by decide⟩
  · rw [if_neg c1]; exact Or.inl ⟨1, rfl, by decide⟩
theorem mod_at (x : Int) : ∃ k : Nat, (Int.tmod x 512 + 512) % 512 = (k : Int) ∧ k < 512 ∧ -512 < Int.tmod x 512 ∧ Int.tmod x 512 < 512 := by
  have h1 := Int.tmod_lt_of_pos x (show (0 : Int) < 512 by decide)
  have h2 := Int.lt_tmod_of_pos x (show (0 : Int) < 512 by decide)
  exact ⟨((Int.tmod x 512 + 512) % 512).toNat, by omega, by omega, by omega, h1⟩
theorem set_same {l : Str} {k : Nat} (h : k < l.length) : l.set k (l.getD k 0) = l := by
  rw [List.getD_eq_getElem?_getD, List.getElem?_eq_getElem h]
  exact List.set_getElem_self h
theorem xor_stay {x y : UInt8} (h : x ^^^ y = x) : y = 0 := by
  have : x ^^^ (x ^^^ y) = x ^^^ x := by rw [h]
  rwa [← UInt8.xor_assoc, UInt8.xor_self, UInt8.zero_xor] at this
set_option maxRecDepth 100000 in
set_option maxHeartbeats 4000000 in
theorem back_any (H : Hdr) (at0 : Int) (by0 : UInt8) (w : World) (hin : HIn H) (hm : MaxLen w) : Calls Tryd.prog 4 #[hval H, .int .i64 at0, .int .u8 (by0.toNat : Int)] w (BoolPost true w) := by
  have HIn := Lib.hid hin
  have HO := Lib.hid ((Only.refl (fun _ => False) w).alloc (.cells (hrow H) 24))
  have hb := alloc_new w (.cells (hrow H) 24)
  obtain ⟨g1, hg1⟩ : ∃ g1, w.heap.size = g1 := ⟨_, rfl⟩
  obtain ⟨W, hW⟩ : ∃ W, w.alloc (.cells (hrow H) 24) = W := ⟨_, rfl⟩
  rw [hW, hg1] at hb
  rw [hW] at HO
  have HBk := Lib.hid hb
  have HGW := Lib.hid (And.intro hg1 hW)
  have HMW := Lib.hid (hm.only HO.out)
  have c0 : W.cell? ⟨g1, 0, none⟩ = some (.string (B H.name)) := Joins.cell_of_block hb 0
  have c1 : W.cell? ⟨g1, 1, none⟩ = some (.string (B H.pre)) := Joins.cell_of_block hb 1
  have c2 : W.cell? ⟨g1, 2, none⟩ = some (.string (B H.target)) := Joins.cell_of_block hb 2
  have c9 : W.cell? ⟨g1, 9, none⟩ = some (.string (B H.user)) := Joins.cell_of_block hb 9
  have c10 : W.cell? ⟨g1, 10, none⟩ = some (.string (B H.group)) := Joins.cell_of_block hb 10
  clear hg1 hW hb hm hin
  go_enter Tryd.func4, Tryd.ntmps4
  go_upto_region 1 with (fail)
  change Code.wp Tryd.prog _ _ _ (w.alloc (.cells (hrow H) 24))
  rw [HGW.out.2, HGW.out.1]
  by_cases a0 : (B H.name).size ≤ 200
  · have e0 : decide ((((B H.name).size : Nat) : Int) > 200) = false := decide_eq_false (by omega)
    have e0' : decide (200 < (B H.name).size) = false := decide_eq_false (by omega)
    by_cases a1 : (B H.pre).size ≤ 200
    · have e1 : decide ((((B H.pre).size : Nat) : Int) > 200) = false := decide_eq_false (by omega)
      have e1' : decide (200 < (B H.pre).size) = false := decide_eq_false (by omega)
      by_cases a2 : (B H.target).size ≤ 200
      · have e2 : decide ((((B H.target).size : Nat) : Int) > 200) = false := decide_eq_false (by omega)
        have e2' : decide (200 < (B H.target).size) = false := decide_eq_false (by omega)
        by_cases a3 : (B H.user).size ≤ 200
        · have e3 : decide ((((B H.user).size : Nat) : Int) > 200) = false := decide_eq_false (by omega)
          have e3' : decide (200 < (B H.user).size) = false := decide_eq_false (by omega)
          by_cases a4 : (B H.group).size ≤ 200
          · have e4 : decide ((((B H.group).size : Nat) : Int) > 200) = false := decide_eq_false (by omega)
            have e4' : decide (200 < (B H.group).size) = false := decide_eq_false (by omega)
            have hH : HOk H := HIn.out.ok (n := 200) (by decide) (by rw [← B_size]; exact a0) (by rw [← B_size]; exact a1) (by rw [← B_size]; exact a2) (by rw [← B_size]; exact a3) (by rw [← B_size]; exact a4)
            have HP1 := Lib.hid (fun u => put_any (H := H) u hH)
            clear a0 a1 a2 a3 a4 hH
            go_wp2_with (first
              | (with_reducible refine gate 45 rfl ?_; refine load_hdr rfl _ rfl rfl HBk.out ?_))
            refine (HP1.out _).mono ?_
            rintro x w1 ⟨A, n, c, rfl, h1, h2, h3, h4⟩
            have HN := Lib.hid h1
            have HC := Lib.hid h2
            have HR := Lib.hid h3
            have H1 := Lib.hid h4
            clear h1 h2 h3 h4
            rcases put_cases H with ⟨e0, he0, hne⟩ | ⟨hp, hf, hn⟩
            · rw [he0] at HN ⊢
              obtain rfl : n = 0 := HN.out.symm
              have d0 : (e0 != 0) = true := bne_iff_ne.mpr hne
              clear he0 hne HP1 HR
              go_wp2_with fail
              refine (told_any _ (HMW.out.only H1.out)).mono ?_
              rintro x w4 ⟨rfl, hb4⟩
              have HF := Lib.hid ((HO.out.trans' H1.out).trans' hb4)
              go_wp2_with fail
              go_ret
              exact ⟨rfl, HF.out⟩
            · rw [hp] at HN HR ⊢
              have HB := Lib.hid (body_is hf hn)
              have HT := Lib.hid (show ∀ (i : Nat) (y : UInt8), i < 512 → ¬ (148 ≤ i ∧ i < 156) → y ≠ (bodyP H).getD i 0 → (readL ((bodyP H).set i y)).2 ≠ 0 from fun i y h1 h2 h3 => read_turned hf hn h1 h2 h3)
              have HRP := Lib.hid (read_put hf hn)
              obtain ⟨b, hb⟩ : ∃ b, bodyP H = b := ⟨_, rfl⟩
              rw [hb] at HN HR HB HT HRP
              obtain rfl : n = 512 := HN.out.symm.trans HB.out.len
              clear hp hf hn hb HP1
              go_wp2_with fail
              refine (read_all HB.out.len HC.out (by decide) HR.out (HMW.out.only H1.out)).mono ?_
              rintro x w2 ⟨rfl, h2⟩
              rw [HRP.out]
              have HR2 := Lib.hid (HR.out.only h2)
              have H2 := Lib.hid (H1.out.trans' h2)
              clear h2 HR
              go_upto_region 9 with (first
                | ((with_reducible refine gate_store 24 rfl ?_); refine store_new (H0 := hdr0) rfl H _ _ rfl rfl rfl ?_; intro w3 hb3 ho3)
                | (with_reducible refine gate 65 rfl ?_
                   refine gate_guard (by rfl) ?_; dsimp only
                   refine load_hdr rfl _ rfl rfl hb3 ?_)
                | (with_reducible refine gate 66 rfl ?_
                   refine gate_guard (by rfl) ?_; dsimp only
                   refine load_hdr rfl _ rfl rfl ((H2.out.trans' ho3).keeps HBk.out id) ?_)
                | (with_reducible refine gate 67 rfl ?_
                   refine gate_guard (by rfl) ?_; dsimp only
                   refine op_neq24 rfl _ _ rfl H H rfl rfl ?_
                   rw [decide_eq_true (show H = H from rfl), Bool.not_true]))
              have HR3 := Lib.hid (HR2.out.only ho3)
              have H3 := Lib.hid (H2.out.trans' ho3)
              clear hb3 ho3 HR2
              obtain ⟨k, hk, hk5, hk1, hk2⟩ := mod_at at0
              go_upto_region 10 with (fail)
              rw [hk]
              clear hk hk1 hk2
              by_cases ck : 148 ≤ k ∧ k < 156
              · have k1 : decide ((k : Int) ≥ 148) = true := decide_eq_true (by omega)
                have k2 : decide ((k : Int) < 156) = true := decide_eq_true (by omega)
                clear ck HT HRP
                go_wp2_with fail
                refine (told_any _ (HMW.out.only H3.out)).mono ?_
                rintro x w4 ⟨rfl, hb4⟩
                have HF := Lib.hid ((HO.out.trans' H3.out).trans' hb4)
                go_wp2_with fail
                go_ret
                exact ⟨rfl, HF.out⟩
              · have HCK := Lib.hid ck
                have HK5 := Lib.hid hk5
                obtain ⟨xb, hxb⟩ : ∃ xb, b.getD k 0 = xb := ⟨_, rfl⟩
                have hxor : Go.bits .xor .u8 (xb.toNat : Int) (by0.toNat : Int) = ((xb ^^^ by0).toNat : Int) := by
                  rw [xor_nat stays_u8 (by have := xb.toNat_lt; omega) (by have := by0.toNat_lt; omega), UInt8.toNat_xor]
                have HX := Lib.hid hxb
                have HSET := Lib.hid (show (ints b).set k ((xb ^^^ by0).toNat : Int) = ints (b.set k (xb ^^^ by0)) from by unfold ints; rw [List.map_set])
                have HLS := Lib.hid (show (b.set k (xb ^^^ by0)).length = 512 by rw [List.length_set, HB.out.len])
                obtain ⟨bb, hbb⟩ : ∃ bb : Bool, ((by0.toNat : Int) == 0) = bb := ⟨_, rfl⟩
                have HQ := Lib.hid (show ((readL (b.set k (xb ^^^ by0))).2 == 0) = bb by
                  by_cases z : by0 = 0
                  · subst z
                    rw [← hbb, show xb ^^^ (0 : UInt8) = xb from UInt8.xor_zero, ← hxb, set_same (by rw [HB.out.len]; exact hk5), HRP.out]; rfl
                  · have e1 : ((by0.toNat : Int) == 0) = false := beq_eq_false_iff_ne.mpr (fun e => z (UInt8.toNat.inj (by exact_mod_cast e)))
                    rw [← hbb, e1]
                    refine beq_eq_false_iff_ne.mpr (HT.out k _ hk5 ck (fun e => z ?_))
                    rw [hxb] at e
                    exact xor_stay e)
                obtain ⟨r2, hr2⟩ : ∃ r2, (readL (b.set k (xb ^^^ by0))).2 = r2 := ⟨_, rfl⟩
                obtain ⟨R1, hR1⟩ : ∃ R1, (readL (b.set k (xb ^^^ by0))).1 = R1 := ⟨_, rfl⟩
                rw [hr2] at HQ
                have q1 := HQ.out
                have q2 := hbb
                have q3 : (bb == bb) = true := beq_self_eq_true _
                have HEQ := Lib.hid (show readL (b.set k (xb ^^^ by0)) = (R1, r2) by rw [← hr2, ← hR1])
                obtain ⟨b2, hb2⟩ : ∃ b2, b.set k (xb ^^^ by0) = b2 := ⟨_, rfl⟩
                rw [hb2] at HSET HLS HEQ
                clear hxb hbb hr2 hR1 hb2 HRP HT HQ
                obtain ⟨yy, hyy⟩ : ∃ yy, xb ^^^ by0 = yy := ⟨_, rfl⟩
                rw [hyy] at hxor HSET
                clear hyy
                have hlt : (k : Int) < 512 := by omega
                by_cases c148 : 148 ≤ k
                · have k1 : decide ((k : Int) ≥ 148) = true := decide_eq_true (by omega)
                  have k2 : decide ((k : Int) < 156) = false := decide_eq_false (by omega)
                  clear ck c148
                  go_upto_region 13 with (first
                    | (with_reducible refine gate 85 rfl ?_
                       refine own_empty (base := w3.heap.size) (w0 := w3) rfl rfl ?hr (Below.refl _ _) (Nat.le_refl _) ?_
                       (case hr => first | (go_simp; done) | (go_simp; rfl))
                       intro v4 w4 hO4 hB4 hs4)
                    | (with_reducible refine gate 87 rfl ?_
                       refine own_append (base := w3.heap.size) (w0 := w3) rfl (.tmp 85) (.tmp 86) rfl v4 [] (ints b) A c rfl (by show Value.slice A 512 c = Value.slice A (ints b).length c; rw [ints_len, HN.out]) hO4 (HR3.out.below hB4) hB4 hB4.size (by rw [ints_len, HN.out]; decide) ?_
                       intro v5 w5 hO5 hB5 hs5))
                  rw [List.nil_append] at hO5
                  obtain ⟨g5, cap5, eA, hg5⟩ := Own.form hO5 (by rw [ints_len, HN.out]; decide)
                  rw [ints_len, HN.out] at eA
                  subst eA
                  have HO5 := Lib.hid hO5
                  have HC5 := Lib.hid (own_capn hO5).2
                  have H5 := Lib.hid (H3.out.trans' (Only.of_below hB5 (fun _ => False)))
                  have ck5 := Own.cell HO5.out (j := k) (by rw [ints_len, HN.out]; exact HK5.out)
                  have fk5 := Own.frozen HO5.out (j := k) HK5.out
                  rw [ints_get (by rw [HN.out]; exact HK5.out), HX.out] at ck5
                  have hO6 := Own.putn HO5.out k (yy.toNat : Int)
                  rw [HSET.out] at hO6
                  have HR6 := Lib.hid (own_rdu hO6)
                  have H6 := Lib.hid ((Only.of_below (hB5.setCell (p := ⟨g5, k, none⟩) hg5 (.int .u8 (yy.toNat : Int))) (fun _ => False)))
                  clear hO5 hB5 hO6 hO4 hB4 hs4 hs5
                  go_wp2_with fail
                  refine (read_all HLS.out HC5.out (by decide) HR6.out (HMW.out.only (H3.out.trans' H6.out))).mono ?_
                  rintro x w6 ⟨rfl, h6⟩
                  rw [HEQ.out]
                  have H7 := Lib.hid ((H3.out.trans' H6.out).trans' h6)
                  clear h6
                  go_wp2_with (first
                    | ((with_reducible refine gate_store 24 rfl ?_); refine store_new (H0 := hdr0) rfl R1 _ _ rfl rfl rfl ?_; intro w8 hb8 ho8))
                  refine (told_any _ (HMW.out.only (H7.out.trans' ho8))).mono ?_
                  rintro x w9 ⟨rfl, h9⟩
                  have HF := Lib.hid ((HO.out.trans' (H7.out.trans' ho8)).trans' h9)
                  clear h9 ho8 hb8
                  go_wp2_with fail
                  go_ret
                  exact ⟨rfl, HF.out⟩
                · have k1 : decide ((k : Int) ≥ 148) = false := decide_eq_false (by omega)
                  clear ck c148
                  go_upto_region 13 with (first
                    | (with_reducible refine gate 85 rfl ?_
                       refine own_empty (base := w3.heap.size) (w0 := w3) rfl rfl ?hr (Below.refl _ _) (Nat.le_refl _) ?_
                       (case hr => first | (go_simp; done) | (go_simp; rfl))
                       intro v4 w4 hO4 hB4 hs4)
                    | (with_reducible refine gate 87 rfl ?_
                       refine own_append (base := w3.heap.size) (w0 := w3) rfl (.tmp 85) (.tmp 86) rfl v4 [] (ints b) A c rfl (by show Value.slice A 512 c = Value.slice A (ints b).length c; rw [ints_len, HN.out]) hO4 (HR3.out.below hB4) hB4 hB4.size (by rw [ints_len, HN.out]; decide) ?_
                       intro v5 w5 hO5 hB5 hs5))
                  rw [List.nil_append] at hO5
                  obtain ⟨g5, cap5, eA, hg5⟩ := Own.form hO5 (by rw [ints_len, HN.out]; decide)
                  rw [ints_len, HN.out] at eA
                  subst eA
                  have HO5 := Lib.hid hO5
                  have HC5 := Lib.hid (own_capn hO5).2
                  have H5 := Lib.hid (H3.out.trans' (Only.of_below hB5 (fun _ => False)))
                  have ck5 := Own.cell HO5.out (j := k) (by rw [ints_len, HN.out]; exact HK5.out)
                  have fk5 := Own.frozen HO5.out (j := k) HK5.out
                  rw [ints_get (by rw [HN.out]; exact HK5.out), HX.out] at ck5
                  have hO6 := Own.putn HO5.out k (yy.toNat : Int)
                  rw [HSET.out] at hO6
                  have HR6 := Lib.hid (own_rdu hO6)
                  have H6 := Lib.hid ((Only.of_below (hB5.setCell (p := ⟨g5, k, none⟩) hg5 (.int .u8 (yy.toNat : Int))) (fun _ => False)))
                  clear hO5 hB5 hO6 hO4 hB4 hs4 hs5
                  go_wp2_with fail
                  refine (read_all HLS.out HC5.out (by decide) HR6.out (HMW.out.only (H3.out.trans' H6.out))).mono ?_
                  rintro x w6 ⟨rfl, h6⟩
                  rw [HEQ.out]
                  have H7 := Lib.hid ((H3.out.trans' H6.out).trans' h6)
                  clear h6
                  go_wp2_with (first
                    | ((with_reducible refine gate_store 24 rfl ?_); refine store_new (H0 := hdr0) rfl R1 _ _ rfl rfl rfl ?_; intro w8 hb8 ho8))
                  refine (told_any _ (HMW.out.only (H7.out.trans' ho8))).mono ?_
                  rintro x w9 ⟨rfl, h9⟩
                  have HF := Lib.hid ((HO.out.trans' (H7.out.trans' ho8)).trans' h9)
                  clear h9 ho8 hb8
                  go_wp2_with fail
                  go_ret
                  exact ⟨rfl, HF.out⟩
          · have e4 : decide ((((B H.group).size : Nat) : Int) > 200) = true := decide_eq_true (by omega)
            have e4' : decide (200 < (B H.group).size) = true := decide_eq_true (by omega)
            go_wp2_with fail
            refine (told_any _ HMW.out).mono ?_
            rintro x w4 ⟨rfl, hb4⟩
            have HF := Lib.hid (HO.out.trans' hb4)
            go_wp2_with fail
            go_ret
            exact ⟨rfl, HF.out⟩
        · have e3 : decide ((((B H.user).size : Nat) : Int) > 200) = true := decide_eq_true (by omega)
          have e3' : decide (200 < (B H.user).size) = true := decide_eq_true (by omega)
          go_wp2_with fail
          refine (told_any _ HMW.out).mono ?_
          rintro x w4 ⟨rfl, hb4⟩
          have HF := Lib.hid (HO.out.trans' hb4)
          go_wp2_with fail
          go_ret
          exact ⟨rfl, HF.out⟩
      · have e2 : decide ((((B H.target).size : Nat) : Int) > 200) = true := decide_eq_true (by omega)
        have e2' : decide (200 < (B H.target).size) = true := decide_eq_true (by omega)
        go_wp2_with fail
        refine (told_any _ HMW.out).mono ?_
        rintro x w4 ⟨rfl, hb4⟩
        have HF := Lib.hid (HO.out.trans' hb4)
        go_wp2_with fail
        go_ret
        exact ⟨rfl, HF.out⟩
    · have e1 : decide ((((B H.pre).size : Nat) : Int) > 200) = true := decide_eq_true (by omega)
      have e1' : decide (200 < (B H.pre).size) = true := decide_eq_true (by omega)
      go_wp2_with fail
      refine (told_any _ HMW.out).mono ?_
      rintro x w4 ⟨rfl, hb4⟩
      have HF := Lib.hid (HO.out.trans' hb4)
      go_wp2_with fail
      go_ret
      exact ⟨rfl, HF.out⟩
  · have e0 : decide ((((B H.name).size : Nat) : Int) > 200) = true := decide_eq_true (by omega)
    have e0' : decide (200 < (B H.name).size) = true := decide_eq_true (by omega)
    go_wp2_with fail
    refine (told_any _ HMW.out).mono ?_
    rintro x w4 ⟨rfl, hb4⟩
    have HF := Lib.hid (HO.out.trans' hb4)
    go_wp2_with fail
    go_ret
    exact ⟨rfl, HF.out⟩
theorem lawBack {H : Type} {enc : TypeId × Value → H} {W : World} {base : Nat} {v0 v1 v2 : Value} {d0 d1 d2 : DataW H} {p0 p1 p2 : List MemPlace} {ts : List TypeId} {ds : List (DataW H)} (hm : MaxLen W)
    (ov0 : Value.okWide Tryd.prog W .any base 24 v0) (k0 : DataW.Trod enc Tryd.prog W 0 (fun _ => true) true 24 v0 d0 p0)
    (ov1 : Value.okWide Tryd.prog W .any base 3 v1) (k1 : DataW.Trod enc Tryd.prog W 0 (fun _ => true) true 3 v1 d1 p1)
    (ov2 : Value.okWide Tryd.prog W .any base 5 v2) (k2 : DataW.Trod enc Tryd.prog W 0 (fun _ => true) true 5 v2 d2 p2)
    (_ : (DataW.weightsEach Tryd.prog ts ds).all (· ≤ reachBytes) = true) :
    Calls Tryd.prog 4 #[v0, v1, v2] W fun e w' => e = .returned (.bool true) ∧ Below W.heap.size W w' := by
  obtain ⟨K, rfl, hin⟩ := open_hdr ov0 k0
  obtain ⟨n1, rfl, _, _, _⟩ := Go.ChangeShapes.open_int Tryd.underlying3 ov1 k1
  obtain ⟨n2, rfl, _, _, w2⟩ := Go.ChangeShapes.open_int Tryd.underlying5 ov2 k2
  have hu := u8_b w2
  have ht : ((UInt8.ofNat n2.toNat).toNat : Int) = n2 := by
    rw [UInt8.toNat_ofNat']; omega
  have := back_any K n1 (UInt8.ofNat n2.toNat) W hin hm
  rw [ht] at this
  exact this.mono fun x w' h => ⟨h.1, h.2.none⟩
end Go.Proofs.YtggjdfnkmhlliaaDoor.Walks
