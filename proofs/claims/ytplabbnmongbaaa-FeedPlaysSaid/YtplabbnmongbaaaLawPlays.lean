/- The law 'a feed answers as the document says' answers true, whatever the ops. -/
import Derived.Test.YtplabbnmongbaaaTak
import Derived.Test.YtplabbnmongbaaaInc
import Derived.Test.YtplabbnmongbaaaFOps
import Derived.Deep.CutBlock
namespace Go.Proofs.Ytplabbnmongbaaa.Walks
open Go Go.RowKit Go.Proofs.Ytplabbnmongbaaa.Aid Go.Proofs.Ytplabbnmongbaaa.Own Go.ChangeShapes Go.WideShapes Go.Proofs.YtplabbnmongbaaaW.PrintWords

def SwRel (g : Nat) (w : World) (i : Nat) (v4 v5 v6 : Value) (u : World) : Prop :=
  ∃ (k : Nat) (P : List Int) (e : Bool) (S : ByteArray) (L : Nat), v4 = .string S ∧ v5 = .int .i64 (k : Int) ∧ v6 = .bool e ∧ Hid (Play g w (i + 1) S k e P L u)
theorem World.alloc_new' (w : World) (o : Obj) : (w.alloc o).heap[w.heap.size]? = some o := alloc_new w o
theorem div8_up (k : Nat) (h : k ≤ 1000000) : wrap64 (((k : Int) + 7).tdiv 8) = ((k : Int) + 7) / 8 := by
  rw [Int.tdiv_eq_ediv_of_nonneg (by omega), wrap64_in (by omega) (by omega)]
theorem div8_back (k : Nat) (h : k ≤ 1000000) : wrap64 (((k : Int) + 7) / 8 * 8) = ((k : Int) + 7) / 8 * 8 := wrap64_in (by omega) (by omega)
theorem held_at {w : World} {g : Nat} {P : List Int} {k : Nat} {e : Bool} (h : FeedAt w g P k e) (v : Int) (hv : (P.length : Int) - ((k / 8 : Nat) : Int) = v) : Calls Try.prog 19 #[.pointer (some ⟨g, 0, none⟩)] w fun x w' => x = .returned (.int .i64 v) ∧ w' = w := by
  rw [← hv]; exact held_any h
theorem min_pair (ats : Array TypeId) (ty : TypeId) (x y : Int) : Builtin.min_ ats ty #[.int .i64 x, .int .i64 y] = pure (.int .i64 (if y < x then y else x)) := by
  simp only [Go.Proofs.YtplabbnmongbaaaW.PrintMore.min_two, Go.Proofs.YtplabbnmongbaaaW.PrintMore.min2_int, pure_bind]
attribute [local go_sem] min_pair
theorem peek_zero {w : World} {g : Nat} {P : List Int} {k : Nat} {e : Bool} (h : FeedAt w g P k e) (n : Int) (hv : peekV P k n = 0) : Calls Try.prog 9 #[.pointer (some ⟨g, 0, none⟩), .int .i64 n] w fun x w' => x = .returned (.int .u32 0) ∧ ∃ m, w' = w.drewN m := by
  have := peek_any h n
  rwa [hv] at this
def PlayRel (g : Nat) (w : World) (v4 v5 v6 v7 : Value) (u : World) : Prop :=
  ∃ (i k : Nat) (P : List Int) (e : Bool) (S : ByteArray) (L : Nat), v7 = .int .i64 (i : Int) ∧ i ≤ 60 ∧ v4 = .string S ∧ v5 = .int .i64 (k : Int) ∧ v6 = .bool e ∧ Hid (Play g w i S k e P L u)
set_option maxRecDepth 100000 in
set_option maxHeartbeats 40000000 in
theorem plays_any (w : World) (A : Option Addr) (len cap : Nat) (K N : Nat → Int) (C : Nat → Option Addr × List Int × Nat) (ho : OpsAt w A len K N C) :
    Calls Try.prog 4 #[.slice A len cap] w (ToldPost w) := by
  have hlen := ho.1
  have HO := Lib.hid ho
  clear ho
  go_enter Try.func4, Try.ntmps4
  go_wp2_with fail
  go_at_call 6
  refine (new_at w).mono ?_
  rintro x w1 ⟨g, rfl, hg, HF, hbl⟩
  go_wp2_with fail
  go_loopw [4, 5, 6, 7] (fun v4 v5 v6 v7 u => PlayRel g w v4 v5 v6 v7 u) (fun _ _ _ i _ => 60 - (intOf i).toNat)
  case atStart => exact ⟨0, 0, [], false, _, 0, rfl, by omega, rfl, rfl, rfl, Lib.hid (Play.first g w _ HF.out hbl)⟩
  case round =>
    obtain ⟨i, k, P, e, S, L, rfl, hi, rfl, rfl, rfl, HP⟩ := hrel
    have hB := HP.out.below
    clear HF hbl
    have hi0 : (0:Int) ≤ (i:Int) := by omega
    have HB := Lib.hid hB
    by_cases c1 : i < len
    · by_cases c2 : i < 60
      · obtain ⟨ad, rfl, o0, o1, o2, hr, hbb, hcl, hcm, b0, b1⟩ := HO.out.2 i c1
        replace o0 := (hB.cell (World.block_lt_of_cell? w _ o0)).trans o0
        replace o1 := (hB.cell (World.block_lt_of_cell? w _ o1)).trans o1
        replace o2 := (hB.cell (World.block_lt_of_cell? w _ o2)).trans o2
        rw [Aid.add_field _ _ 1 (by decide)] at o1
        rw [Aid.add_field _ _ 2 (by decide)] at o2
        have HR := Lib.hid (Aid.RdK.below hr hB)
        have HRw := Lib.hid hr
        have HY := Lib.hid hbb
        generalize hC : C i = ci at *
        obtain ⟨Ai, li, ki⟩ := ci
        simp only at o2 hcl hcm HR HRw HY
        clear hC hr hbb hB
        generalize K i = Ki at *
        generalize N i = Ni at *
        by_cases c3 : li.length ≤ 20
        · have c3' : decide ((li.length : Int) > 20) = false := decide_eq_false (by omega)
          have c2' : decide ((i : Int) < 60) = true := decide_eq_true (by omega)
          go_upto_region 11 with (fail)
          obtain ⟨s, hs, hs7⟩ : ∃ s : Int, (wrap64 (Ki.tmod 7 + 7)).tmod 7 = s ∧ (0 ≤ s ∧ s < 7) := by
            have h1 := Int.tmod_lt_of_pos Ki (show (0 : Int) < 7 by decide)
            have h2 : -7 < Ki.tmod 7 := by
              have := Int.tmod_lt_of_pos (-Ki) (show (0 : Int) < 7 by decide)
              rw [Int.neg_tmod] at this
              omega
            rw [wrap64_in (by omega) (by omega)]
            have h3 := Int.tmod_nonneg (7 : Int) (show 0 ≤ Ki.tmod 7 + 7 by omega)
            have h4 := Int.tmod_lt_of_pos (Ki.tmod 7 + 7) (show (0 : Int) < 7 by decide)
            exact ⟨(Ki.tmod 7 + 7).tmod 7, rfl, h3, h4⟩
          have hop := World.alloc_new' wr (Obj.cells #[Value.int IntKind.i64 Ki, Value.int IntKind.i64 Ni, Value.slice Ai li.length ki] 36)
          go_upto_block 2 with (fail)
          have HP2 : Hid (Play g w i S k e P L (wr.alloc (Obj.cells #[Value.int IntKind.i64 Ki, Value.int IntKind.i64 Ni, Value.slice Ai li.length ki] 36))) := Lib.hid ⟨HP.out.txt, HP.out.len, HP.out.most, HP.out.feed.only ((Only.refl (fun _ => False) wr).alloc _) id (fun _ _ _ => id), HB.out.alloc HB.out.size _⟩
          have HR2 := Lib.hid (Aid.RdK.below HR.out ((Below.refl _ wr).alloc (Nat.le_refl _) (Obj.cells #[Value.int IntKind.i64 Ki, Value.int IntKind.i64 Ni, Value.slice Ai li.length ki] 36)))
          have hh : w.heap.size ≤ wr.heap.size := HB.out.size
          generalize wr.alloc (Obj.cells #[Value.int IntKind.i64 Ki, Value.int IntKind.i64 Ni, Value.slice Ai li.length ki] 36) = w2 at *
          generalize wr.heap.size = h at *
          have hop' := Lib.hid hop
          clear HP HR HB o0 o1 o2 hs hop
          go_cut [4, 5, 6, 9, 10, 11, 12, 13, 14, 15, 16] from 44 to 182 (fun v4 v5 v6 _ _ _ _ _ _ _ _ wx => SwRel g w i v4 v5 v6 wx)
          case first =>
            have oc0 : w2.cell? ⟨h, 0, none⟩ = _ := Joins.cell_of_block hop'.out 0
            have oc1 : w2.cell? ⟨h, 1, none⟩ = _ := Joins.cell_of_block hop'.out 1
            have oc2 : w2.cell? ⟨h, 2, none⟩ = _ := Joins.cell_of_block hop'.out 2
            simp only [List.getElem?_toArray, List.getElem?_cons_zero, List.getElem?_cons_succ] at oc0 oc1 oc2
            rcases (show s = 0 ∨ s = 1 ∨ s = 2 ∨ s = 3 ∨ s = 4 ∨ s = 5 ∨ s = 6 by omega) with rfl | rfl | rfl | rfl | rfl | rfl | rfl
            · as_aux_lemma =>
              have hLm : L ≤ 1200 := by have := HP2.out.most; omega
              go_wp2_with (first
                | (with_reducible refine gate 49 rfl ?_
                   refine own_empty (base := w2.heap.size) (w0 := w2) rfl rfl ?hr (Below.refl _ _) (Nat.le_refl _) ?_
                   (case hr => first | (go_simp; done) | (go_simp; rfl))
                   intro v1 u1 hO1 hB1 hs1
                   have oc2b := (hB1.cell (World.block_lt_of_cell? w2 _ oc2)).trans oc2)
                | (with_reducible refine gate 52 rfl ?_
                   refine own_append (base := w2.heap.size) (w0 := w2) rfl (.tmp 49) (.tmp 51) rfl v1 [] li Ai ki rfl rfl hO1 (Aid.RdK.below HR2.out hB1) hB1 hB1.size (by simp; omega) ?_
                   intro v2 u2 hO2 hB2 hs2))
              rw [List.nil_append] at hO2
              have HFu := HP2.out.feed.only (Only.of_below hB2 (fun _ => False)) id (fun _ _ _ => id)
              obtain ⟨A2, c2', rfl, hR2, hBlk⟩ := own_blk hO2
              go_at_call 7
              refine (push_any HFu A2 li c2' hR2 HY.out (by have := HP2.out.len; omega)).mono ?_
              rintro x w4 ⟨rfl, hF4, ho4, hfar, hsame⟩
              have HA4 := Lib.hid (inc_start HP2.out.feed hop'.out hB2 hBlk hF4 ho4 hfar hsame)
              clear hO1 hB1 hs1 oc2b hO2 hB2 hs2 HFu hR2 hBlk hF4 ho4 hfar hsame oc0 oc1 oc2
              go_wp2_with fail
              go_loopw [10] (fun v10 u => ∃ (j : Nat) (Lz : List Int), v10 = .int .i64 (j : Int) ∧ j ≤ li.length ∧ Hid (Inc g h li.length (if e then P else P ++ li) k e #[Value.int IntKind.i64 Ki, Value.int IntKind.i64 Ni, Value.slice Ai li.length ki] A2 w2 Lz u)) (fun j _ => li.length - (intOf j).toNat)
              case atStart => exact ⟨0, li, rfl, Nat.zero_le _, HA4⟩
              case round =>
                obtain ⟨j, Lz, rfl, hj, HI⟩ := hrel
                clear HA4
                by_cases d : j < li.length
                · have d' : decide ((j : Int) < (li.length : Int)) = true := decide_eq_true (by omega)
                  have j0 : (0 : Int) ≤ (j : Int) := by omega
                  obtain ⟨gb, rfl, hgb, hk, _⟩ := HI.out.own (by omega)
                  have x1 := hk.cell (j := j) (by rw [HI.out.len]; omega)
                  have x2 := hk.free j
                  generalize Lz.getD j 0 = y at x1
                  clear hk
                  go_wp2_with fail
                  exact ⟨⟨j + 1, Lz.set j _, by simp, by omega, Lib.hid (HI.out.put (by omega) j _)⟩, by simp [intOf]; omega⟩
                · have d' : decide ((j : Int) < (li.length : Int)) = false := decide_eq_false (by omega)
                  have hF5 := HI.out.feed
                  have HO5 := Lib.hid HI.out.only
                  have q2 := Joins.cell_of_block HI.out.op 2
                  simp only [List.getElem?_toArray, List.getElem?_cons_zero, List.getElem?_cons_succ] at q2
                  have hBw := HP2.out.below.trans (HO5.out.below HP2.out.below.size (fun _ e => by subst e; exact hg))
                  have HR5 := Lib.hid (Aid.RdK.below HRw.out hBw)
                  clear hBw
                  cases e with
                  | true =>
                    have HF5 := Lib.hid hF5
                    clear hF5
                    go_wp2_with fail
                    go_meet
                    exact ⟨k, P, true, S, L, rfl, rfl, rfl, Lib.hid (HP2.out.next HF5.out HO5.out hg)⟩
                  | false =>
                    have HF5 := Lib.hid hF5
                    clear hF5
                    go_wp2_with fail
                    go_at_call 12
                    refine (of_at HR5.out (by omega) hcl).mono ?_
                    rintro x w6 ⟨rfl, hb6⟩
                    have hsum : ¬ (S.size + (strOfNums (chars li)).size > 9223372036854775807) := by rw [HP2.out.size, strOfNums_size, chars_length]; omega
                    generalize hT : strOfNums (chars li) = T
                    rw [hT] at hsum
                    have HT := Lib.hid hT
                    clear hT
                    go_wp2_with fail
                    go_meet
                    exact ⟨k, P ++ li, false, S ++ T, L + li.length, rfl, rfl, rfl, Lib.hid (by rw [← HT.out]; exact HP2.out.push c3 HF5.out HO5.out hb6 hg)⟩
            · as_aux_lemma =>
              have hLm : L ≤ 1200 := by have := HP2.out.most; omega
              go_wp2_with (first
                | (with_reducible refine gate 49 rfl ?_
                   refine own_empty (base := w2.heap.size) (w0 := w2) rfl rfl ?hr (Below.refl _ _) (Nat.le_refl _) ?_
                   (case hr => first | (go_simp; done) | (go_simp; rfl))
                   intro v1 u1 hO1 hB1 hs1
                   have oc2b := (hB1.cell (World.block_lt_of_cell? w2 _ oc2)).trans oc2)
                | (with_reducible refine gate 52 rfl ?_
                   refine own_append (base := w2.heap.size) (w0 := w2) rfl (.tmp 49) (.tmp 51) rfl v1 [] li Ai ki rfl rfl hO1 (Aid.RdK.below HR2.out hB1) hB1 hB1.size (by simp; omega) ?_
                   intro v2 u2 hO2 hB2 hs2))
              rw [List.nil_append] at hO2
              have HFu := HP2.out.feed.only (Only.of_below hB2 (fun _ => False)) id (fun _ _ _ => id)
              obtain ⟨A2, c2', rfl, hR2, hBlk⟩ := own_blk hO2
              go_at_call 7
              refine (push_any HFu A2 li c2' hR2 HY.out (by have := HP2.out.len; omega)).mono ?_
              rintro x w4 ⟨rfl, hF4, ho4, hfar, hsame⟩
              have HA4 := Lib.hid (inc_start HP2.out.feed hop'.out hB2 hBlk hF4 ho4 hfar hsame)
              clear hO1 hB1 hs1 oc2b hO2 hB2 hs2 HFu hR2 hBlk hF4 ho4 hfar hsame oc0 oc1 oc2
              go_wp2_with fail
              go_loopw [10] (fun v10 u => ∃ (j : Nat) (Lz : List Int), v10 = .int .i64 (j : Int) ∧ j ≤ li.length ∧ Hid (Inc g h li.length (if e then P else P ++ li) k e #[Value.int IntKind.i64 Ki, Value.int IntKind.i64 Ni, Value.slice Ai li.length ki] A2 w2 Lz u)) (fun j _ => li.length - (intOf j).toNat)
              case atStart => exact ⟨0, li, rfl, Nat.zero_le _, HA4⟩
              case round =>
                obtain ⟨j, Lz, rfl, hj, HI⟩ := hrel
                clear HA4
                by_cases d : j < li.length
                · have d' : decide ((j : Int) < (li.length : Int)) = true := decide_eq_true (by omega)
                  have j0 : (0 : Int) ≤ (j : Int) := by omega
                  obtain ⟨gb, rfl, hgb, hk, _⟩ := HI.out.own (by omega)
                  have x1 := hk.cell (j := j) (by rw [HI.out.len]; omega)
                  have x2 := hk.free j
                  generalize Lz.getD j 0 = y at x1
                  clear hk
                  go_wp2_with fail
                  exact ⟨⟨j + 1, Lz.set j _, by simp, by omega, Lib.hid (HI.out.put (by omega) j _)⟩, by simp [intOf]; omega⟩
                · have d' : decide ((j : Int) < (li.length : Int)) = false := decide_eq_false (by omega)
                  have hF5 := HI.out.feed
                  have HO5 := Lib.hid HI.out.only
                  have q2 := Joins.cell_of_block HI.out.op 2
                  simp only [List.getElem?_toArray, List.getElem?_cons_zero, List.getElem?_cons_succ] at q2
                  have hBw := HP2.out.below.trans (HO5.out.below HP2.out.below.size (fun _ e => by subst e; exact hg))
                  have HR5 := Lib.hid (Aid.RdK.below HRw.out hBw)
                  clear hBw
                  cases e with
                  | true =>
                    have HF5 := Lib.hid hF5
                    clear hF5
                    go_wp2_with fail
                    go_meet
                    exact ⟨k, P, true, S, L, rfl, rfl, rfl, Lib.hid (HP2.out.next HF5.out HO5.out hg)⟩
                  | false =>
                    have HF5 := Lib.hid hF5
                    clear hF5
                    go_wp2_with fail
                    go_at_call 12
                    refine (of_at HR5.out (by omega) hcl).mono ?_
                    rintro x w6 ⟨rfl, hb6⟩
                    have hsum : ¬ (S.size + (strOfNums (chars li)).size > 9223372036854775807) := by rw [HP2.out.size, strOfNums_size, chars_length]; omega
                    generalize hT : strOfNums (chars li) = T
                    rw [hT] at hsum
                    have HT := Lib.hid hT
                    clear hT
                    go_wp2_with fail
                    go_meet
                    exact ⟨k, P ++ li, false, S ++ T, L + li.length, rfl, rfl, rfl, Lib.hid (by rw [← HT.out]; exact HP2.out.push c3 HF5.out HO5.out hb6 hg)⟩
            · as_aux_lemma =>
              have hsz := HP2.out.size
              have hkL := HP2.out.le
              have hLm : L ≤ 1200 := by have := HP2.out.most; omega
              by_cases n1 : 1 ≤ Ni
              · have n1' : decide (Ni ≥ 1) = true := decide_eq_true n1
                go_upto_if 87 with (fail)
                go_cut [11] from 80 to 98 (fun v11 wx => v11 = .int .u32 (peekV P k Ni) ∧ ∃ q, wx = w2.drewN q)
                case first =>
                  by_cases n2 : Ni ≤ 32
                  · obtain ⟨m, rfl⟩ := Int.eq_ofNat_of_zero_le (show 0 ≤ Ni by omega)
                    by_cases n3 : k + m < 8 * L
                    · have HV := Lib.hid (show pkN P k (k + m - k) = peekV P k (m : Int) by unfold peekV; rw [if_pos ⟨n1, n2⟩, HP2.out.len]; congr 1; omega)
                      go_wp2_with fail
                      go_at_call 13
                      refine (number_at HP2.out (k + m) (by omega) (by omega) (by omega) _ HV.out w2).mono ?_
                      rintro x w3 ⟨rfl, q, rfl⟩
                      go_wp2_with fail
                      go_meet
                      exact ⟨rfl, q, rfl⟩
                    · have HV := Lib.hid (show pkN P k (8 * L - k) = peekV P k (m : Int) by unfold peekV; rw [if_pos ⟨n1, n2⟩, HP2.out.len]; congr 1; omega)
                      go_wp2_with fail
                      go_at_call 13
                      refine (number_at HP2.out (8 * L) (by omega) (by omega) (by omega) _ HV.out w2).mono ?_
                      rintro x w3 ⟨rfl, q, rfl⟩
                      go_wp2_with fail
                      go_meet
                      exact ⟨rfl, q, rfl⟩
                  · have HV := Lib.hid (show peekV P k Ni = 0 by unfold peekV; rw [if_neg (fun h => n2 h.2)])
                    have n2' : decide (Ni ≤ 32) = false := decide_eq_false n2
                    go_wp2_with fail
                    go_meet
                    exact ⟨by rw [HV.out], 0, rfl⟩
                case rest =>
                  obtain ⟨rfl, q, rfl⟩ := hcut
                  go_wp2_with fail
                  go_at_call 9
                  refine (peek_any (HP2.out.feed.drewN q) Ni).mono ?_
                  rintro x w3 ⟨rfl, q2, rfl⟩
                  by_cases m1 : Ni < 0
                  · exact absurd n1 (by omega)
                  · have m1' : decide (Ni < 0) = false := decide_eq_false m1
                    by_cases m2 : Ni > 8 * (L : Int) - k
                    · have m2' : decide (Ni > 8 * (L : Int) - k) = true := decide_eq_true m2
                      have HC := Lib.hid (show skipC P k Ni = 5 by unfold skipC bitsOf; rw [if_neg m1, HP2.out.len, if_pos m2])
                      have HK := Lib.hid (show skipK P k Ni = k by unfold skipK; rw [HC.out, if_neg (by decide)])
                      go_wp2_with fail
                      go_at_call 10
                      refine (skip_at (Lib.hid (HP2.out.feed.drewN _)) Ni 5 _ HC.out HK.out).mono ?_
                      rintro x w4 ⟨rfl, HF4, ho4⟩
                      go_wp2_with fail
                      go_meet
                      exact ⟨k, P, e, S, L, rfl, rfl, rfl, Lib.hid (HP2.out.next HF4.out ho4.undrew hg)⟩
                    · have m2' : decide (Ni > 8 * (L : Int) - k) = false := decide_eq_false m2
                      have HC := Lib.hid (show skipC P k Ni = 0 by unfold skipC bitsOf; rw [if_neg m1, HP2.out.len, if_neg m2])
                      have HK := Lib.hid (show skipK P k Ni = k + Ni.toNat by unfold skipK; rw [HC.out, if_pos rfl])
                      go_wp2_with fail
                      go_at_call 10
                      refine (skip_at (Lib.hid (HP2.out.feed.drewN _)) Ni 0 _ HC.out HK.out).mono ?_
                      rintro x w4 ⟨rfl, HF4, ho4⟩
                      go_wp2_with fail
                      go_meet
                      exact ⟨k + Ni.toNat, P, e, S, L, rfl, congrArg (Value.int .i64) (by omega), rfl, Lib.hid (HP2.out.next HF4.out ho4.undrew hg)⟩
              · have n1' : decide (Ni ≥ 1) = false := decide_eq_false n1
                have hv0 : peekV P k Ni = 0 := by unfold peekV; rw [if_neg (fun h => n1 h.1)]
                have HV := Lib.hid hv0
                clear hv0
                have hcut : (Value.int .u32 0 = .int .u32 0) ∧ ∃ q, w2 = w2.drewN q := ⟨rfl, 0, rfl⟩
                clear hcut
                go_wp2_with fail
                go_at_call 9
                refine (peek_zero HP2.out.feed Ni HV.out).mono ?_
                rintro x w3 ⟨rfl, q2, rfl⟩
                by_cases m1 : Ni < 0
                · have m1' : decide (Ni < 0) = true := decide_eq_true m1
                  have HC := Lib.hid (show skipC P k Ni = 1 by unfold skipC; rw [if_pos m1])
                  have HK := Lib.hid (show skipK P k Ni = k by unfold skipK; rw [HC.out, if_neg (by decide)])
                  go_wp2_with fail
                  go_at_call 10
                  refine (skip_at (Lib.hid (HP2.out.feed.drewN _)) Ni 1 _ HC.out HK.out).mono ?_
                  rintro x w4 ⟨rfl, HF4, ho4⟩
                  go_wp2_with fail
                  go_meet
                  exact ⟨k, P, e, S, L, rfl, rfl, rfl, Lib.hid (HP2.out.next HF4.out ho4.undrew hg)⟩
                · have m1' : decide (Ni < 0) = false := decide_eq_false m1
                  by_cases m2 : Ni > 8 * (L : Int) - k
                  · exact absurd m2 (by omega)
                  · have m2' : decide (Ni > 8 * (L : Int) - k) = false := decide_eq_false m2
                    have HC := Lib.hid (show skipC P k Ni = 0 by unfold skipC bitsOf; rw [if_neg m1, HP2.out.len, if_neg m2])
                    have HK := Lib.hid (show skipK P k Ni = k + Ni.toNat by unfold skipK; rw [HC.out, if_pos rfl])
                    go_wp2_with fail
                    go_at_call 10
                    refine (skip_at (Lib.hid (HP2.out.feed.drewN _)) Ni 0 _ HC.out HK.out).mono ?_
                    rintro x w4 ⟨rfl, HF4, ho4⟩
                    go_wp2_with fail
                    go_meet
                    exact ⟨k + Ni.toNat, P, e, S, L, rfl, congrArg (Value.int .i64) (by omega), rfl, Lib.hid (HP2.out.next HF4.out ho4.undrew hg)⟩
            · as_aux_lemma =>
              have hsz := HP2.out.size
              have hkL := HP2.out.le
              have hLm : L ≤ 1200 := by have := HP2.out.most; omega
              by_cases n1 : 1 ≤ Ni
              · have n1' : decide (Ni ≥ 1) = true := decide_eq_true n1
                go_upto_if 87 with (fail)
                go_cut [11] from 80 to 98 (fun v11 wx => v11 = .int .u32 (peekV P k Ni) ∧ ∃ q, wx = w2.drewN q)
                case first =>
                  by_cases n2 : Ni ≤ 32
                  · obtain ⟨m, rfl⟩ := Int.eq_ofNat_of_zero_le (show 0 ≤ Ni by omega)
                    by_cases n3 : k + m < 8 * L
                    · have HV := Lib.hid (show pkN P k (k + m - k) = peekV P k (m : Int) by unfold peekV; rw [if_pos ⟨n1, n2⟩, HP2.out.len]; congr 1; omega)
                      go_wp2_with fail
                      go_at_call 13
                      refine (number_at HP2.out (k + m) (by omega) (by omega) (by omega) _ HV.out w2).mono ?_
                      rintro x w3 ⟨rfl, q, rfl⟩
                      go_wp2_with fail
                      go_meet
                      exact ⟨rfl, q, rfl⟩
                    · have HV := Lib.hid (show pkN P k (8 * L - k) = peekV P k (m : Int) by unfold peekV; rw [if_pos ⟨n1, n2⟩, HP2.out.len]; congr 1; omega)
                      go_wp2_with fail
                      go_at_call 13
                      refine (number_at HP2.out (8 * L) (by omega) (by omega) (by omega) _ HV.out w2).mono ?_
                      rintro x w3 ⟨rfl, q, rfl⟩
                      go_wp2_with fail
                      go_meet
                      exact ⟨rfl, q, rfl⟩
                  · have HV := Lib.hid (show peekV P k Ni = 0 by unfold peekV; rw [if_neg (fun h => n2 h.2)])
                    have n2' : decide (Ni ≤ 32) = false := decide_eq_false n2
                    go_wp2_with fail
                    go_meet
                    exact ⟨by rw [HV.out], 0, rfl⟩
                case rest =>
                  obtain ⟨rfl, q, rfl⟩ := hcut
                  go_wp2_with fail
                  go_at_call 9
                  refine (peek_any (HP2.out.feed.drewN q) Ni).mono ?_
                  rintro x w3 ⟨rfl, q2, rfl⟩
                  by_cases m1 : Ni < 0
                  · exact absurd n1 (by omega)
                  · have m1' : decide (Ni < 0) = false := decide_eq_false m1
                    by_cases m2 : Ni > 8 * (L : Int) - k
                    · have m2' : decide (Ni > 8 * (L : Int) - k) = true := decide_eq_true m2
                      have HC := Lib.hid (show skipC P k Ni = 5 by unfold skipC bitsOf; rw [if_neg m1, HP2.out.len, if_pos m2])
                      have HK := Lib.hid (show skipK P k Ni = k by unfold skipK; rw [HC.out, if_neg (by decide)])
                      go_wp2_with fail
                      go_at_call 10
                      refine (skip_at (Lib.hid (HP2.out.feed.drewN _)) Ni 5 _ HC.out HK.out).mono ?_
                      rintro x w4 ⟨rfl, HF4, ho4⟩
                      go_wp2_with fail
                      go_meet
                      exact ⟨k, P, e, S, L, rfl, rfl, rfl, Lib.hid (HP2.out.next HF4.out ho4.undrew hg)⟩
                    · have m2' : decide (Ni > 8 * (L : Int) - k) = false := decide_eq_false m2
                      have HC := Lib.hid (show skipC P k Ni = 0 by unfold skipC bitsOf; rw [if_neg m1, HP2.out.len, if_neg m2])
                      have HK := Lib.hid (show skipK P k Ni = k + Ni.toNat by unfold skipK; rw [HC.out, if_pos rfl])
                      go_wp2_with fail
                      go_at_call 10
                      refine (skip_at (Lib.hid (HP2.out.feed.drewN _)) Ni 0 _ HC.out HK.out).mono ?_
                      rintro x w4 ⟨rfl, HF4, ho4⟩
                      go_wp2_with fail
                      go_meet
                      exact ⟨k + Ni.toNat, P, e, S, L, rfl, congrArg (Value.int .i64) (by omega), rfl, Lib.hid (HP2.out.next HF4.out ho4.undrew hg)⟩
              · have n1' : decide (Ni ≥ 1) = false := decide_eq_false n1
                have hv0 : peekV P k Ni = 0 := by unfold peekV; rw [if_neg (fun h => n1 h.1)]
                have HV := Lib.hid hv0
                clear hv0
                have hcut : (Value.int .u32 0 = .int .u32 0) ∧ ∃ q, w2 = w2.drewN q := ⟨rfl, 0, rfl⟩
                clear hcut
                go_wp2_with fail
                go_at_call 9
                refine (peek_zero HP2.out.feed Ni HV.out).mono ?_
                rintro x w3 ⟨rfl, q2, rfl⟩
                by_cases m1 : Ni < 0
                · have m1' : decide (Ni < 0) = true := decide_eq_true m1
                  have HC := Lib.hid (show skipC P k Ni = 1 by unfold skipC; rw [if_pos m1])
                  have HK := Lib.hid (show skipK P k Ni = k by unfold skipK; rw [HC.out, if_neg (by decide)])
                  go_wp2_with fail
                  go_at_call 10
                  refine (skip_at (Lib.hid (HP2.out.feed.drewN _)) Ni 1 _ HC.out HK.out).mono ?_
                  rintro x w4 ⟨rfl, HF4, ho4⟩
                  go_wp2_with fail
                  go_meet
                  exact ⟨k, P, e, S, L, rfl, rfl, rfl, Lib.hid (HP2.out.next HF4.out ho4.undrew hg)⟩
                · have m1' : decide (Ni < 0) = false := decide_eq_false m1
                  by_cases m2 : Ni > 8 * (L : Int) - k
                  · exact absurd m2 (by omega)
                  · have m2' : decide (Ni > 8 * (L : Int) - k) = false := decide_eq_false m2
                    have HC := Lib.hid (show skipC P k Ni = 0 by unfold skipC bitsOf; rw [if_neg m1, HP2.out.len, if_neg m2])
                    have HK := Lib.hid (show skipK P k Ni = k + Ni.toNat by unfold skipK; rw [HC.out, if_pos rfl])
                    go_wp2_with fail
                    go_at_call 10
                    refine (skip_at (Lib.hid (HP2.out.feed.drewN _)) Ni 0 _ HC.out HK.out).mono ?_
                    rintro x w4 ⟨rfl, HF4, ho4⟩
                    go_wp2_with fail
                    go_meet
                    exact ⟨k + Ni.toNat, P, e, S, L, rfl, congrArg (Value.int .i64) (by omega), rfl, Lib.hid (HP2.out.next HF4.out ho4.undrew hg)⟩
            · as_aux_lemma =>
              go_wp2_with fail
              go_at_call 14
              refine (align_any HP2.out.feed).mono ?_
              rintro x w3 ⟨rfl, HF3, ho3⟩
              have hkk : k ≤ 100000 := by have := HP2.out.le; have := HP2.out.most; omega
              go_wp2_with fail
              go_meet
              refine ⟨al k, P, e, S, L, rfl, congrArg (Value.int .i64) ?_, rfl, Lib.hid ⟨HP2.out.txt, HP2.out.len, by have := HP2.out.most; omega, HF3, HP2.out.below.trans (ho3.below HP2.out.below.size (fun _ e => by subst e; exact hg))⟩⟩
              unfold al; omega
            · as_aux_lemma =>
              have hkL := HP2.out.le
              have hLm : L ≤ 1200 := by have := HP2.out.most; omega
              have hsz := HP2.out.size
              have hne : h ≠ g := by
                obtain ⟨⟨_, _, hx, _⟩, _⟩ := HP2.out.feed
                exact cells_ne hx hop'.out (by decide)
              go_wp2_with fail
              go_at_call 15
              refine (take_any HP2.out.feed Ni).mono ?_
              rintro x w3 ⟨T1, T2, T3⟩
              by_cases m1 : Ni < 0
              · obtain ⟨rfl, rfl⟩ := T1 m1
                clear T1 T2 T3
                have m1' : decide (Ni < 0) = true := decide_eq_true m1
                have s0 : ∀ W : World, (convert 22 9 (.slice none 0 0)).run Try.prog W = .ok (.string ⟨#[]⟩) W := fun W => str_rd 0 (l := []) (fun h => absurd h (by decide))
                go_wp2_with fail
                go_meet
                exact ⟨k, P, e, S, L, rfl, rfl, rfl, Lib.hid (HP2.out.next HP2.out.feed (Only.refl _ _) hg)⟩
              · have m1' : decide (Ni < 0) = false := decide_eq_false m1
                have hlP := HP2.out.len
                have hal : al k = (k + 7) / 8 * 8 := rfl
                by_cases m2 : Ni > (8 * (L : Int) - ((k : Int) + 7) / 8 * 8) / 8
                · have m2' : decide (Ni > (8 * (L : Int) - ((k : Int) + 7) / 8 * 8) / 8) = true := decide_eq_true m2
                  obtain ⟨rfl, hF3, ho3⟩ := T2 (by omega) (by rw [hlP, hal]; omega)
                  have s0 : ∀ W : World, (convert 22 9 (.slice none 0 0)).run Try.prog W = .ok (.string ⟨#[]⟩) W := fun W => str_rd 0 (l := []) (fun h => absurd h (by decide))
                  have q1 := Joins.cell_of_block (ho3.keeps hop'.out hne) 1
                  simp only [List.getElem?_toArray, List.getElem?_cons_zero, List.getElem?_cons_succ] at q1
                  have HF3 := Lib.hid hF3
                  clear T1 T2 T3 hF3 hlP hal oc0 oc1 oc2
                  go_wp2_with fail
                  go_meet
                  exact ⟨al k, P, e, S, L, rfl, congrArg (Value.int .i64) (by unfold al; omega), rfl, Lib.hid (HP2.out.next HF3.out ho3 hg)⟩
                · have m2' : decide (Ni > (8 * (L : Int) - ((k : Int) + 7) / 8 * 8) / 8) = false := decide_eq_false m2
                  obtain ⟨A3, c3', rfl, hR3, hF3, ho3⟩ := T3 (by omega) (by rw [hlP, hal]; omega)
                  have q1 := Joins.cell_of_block (ho3.keeps hop'.out hne) 1
                  simp only [List.getElem?_toArray, List.getElem?_cons_zero, List.getElem?_cons_succ] at q1
                  have HF3 := Lib.hid hF3
                  have HR3 := Lib.hid hR3
                  obtain ⟨n, rfl⟩ := Int.eq_ofNat_of_zero_le (show 0 ≤ Ni by omega)
                  clear T1 T2 T3 hF3 hR3 hlP hal oc0 oc1 oc2
                  have HL := Lib.hid (show ((P.drop ((k + 7) / 8)).take n).length = n by rw [List.length_take, List.length_drop, HP2.out.len]; omega)
                  have HQ := Lib.hid (show (P.drop (al k / 8)).take (n : Int).toNat = (P.drop ((k + 7) / 8)).take n by rw [Int.toNat_natCast, show al k / 8 = (k + 7) / 8 by unfold al; omega])
                  go_wp2_with fail
                  go_at_call 16
                  refine (bytes_at2 HP2.out ((k + 7) / 8) n _ _ (by omega) (by omega) (by omega) (by omega) w3).mono ?_
                  rintro x w5 ⟨A5, c5, rfl, hR5, hB5⟩
                  have s2 := str_n c5 hR5 HL.out
                  have s1 := str_n c3' (Aid.RdK.below (HQ.out ▸ HR3.out) hB5) HL.out
                  generalize strOfNums ((P.drop ((k + 7) / 8)).take n) = T at s1 s2
                  have HB5 := Lib.hid hB5
                  have q1b := (hB5.cell (World.block_lt_of_cell? w3 _ q1)).trans q1
                  clear hR5 hB5 q1
                  go_wp2_with fail
                  go_meet
                  exact ⟨al k + 8 * (n : Int).toNat, P, e, S, L, rfl, congrArg (Value.int .i64) (by unfold al; omega), rfl, Lib.hid (HP2.out.next (HF3.out.only (Only.of_below HB5.out (fun _ => False)) id (fun _ _ _ => id)) (ho3.trans (Only.of_below HB5.out (fun _ => False)) (fun _ hk => hk.elim)) hg)⟩
            · as_aux_lemma =>
              go_wp2_with fail
              go_at_call 17
              refine (end_any HP2.out.feed).mono ?_
              rintro x w3 ⟨rfl, HF3, ho3⟩
              go_wp2_with fail
              go_meet
              exact ⟨k, P, true, S, L, rfl, rfl, rfl, Lib.hid ⟨HP2.out.txt, HP2.out.len, by have := HP2.out.most; omega, HF3, HP2.out.below.trans (ho3.below HP2.out.below.size (fun _ e => by subst e; exact hg))⟩⟩
          case rest => as_aux_lemma =>
            obtain ⟨k', P', e', S', L', rfl, rfl, rfl, HQ⟩ := hcut
            have hsz := HQ.out.size
            have hkP := HQ.out.le
            have hLm : L' ≤ 20 * (i + 1) := HQ.out.most
            go_wp2_with fail
            go_at_call 8
            refine (bits_at (Lib.hid HQ.out.feed) (8 * (L' : Int) - k') (by unfold bitsOf; rw [HQ.out.len])).mono ?_
            rintro x w' ⟨rfl, mm, rfl⟩
            go_wp2_with fail
            go_at_call 11
            refine (used_any (HQ.out.feed.drewN mm)).mono ?_
            rintro x w' ⟨rfl, rfl⟩
            go_wp2_with fail
            go_at_call 18
            refine (ended_any (HQ.out.feed.drewN mm)).mono ?_
            rintro x w' ⟨rfl, rfl⟩
            go_wp2_with fail
            go_at_call 19
            refine (held_at (HQ.out.feed.drewN mm) ((L' : Int) - ((k' / 8 : Nat) : Int)) (by rw [HQ.out.len])).mono ?_
            rintro x w' ⟨rfl, rfl⟩
            go_wp2_with fail
            go_at_call 19
            refine (held_at (HQ.out.feed.drewN mm) ((L' : Int) - ((k' / 8 : Nat) : Int)) (by rw [HQ.out.len])).mono ?_
            rintro x w' ⟨rfl, rfl⟩
            go_wp2_with fail
            exact ⟨⟨i + 1, k', P', e', S', L', by simp, by omega, rfl, rfl, rfl, Lib.hid ⟨HQ.out.txt, HQ.out.len, HQ.out.most, HQ.out.feed.drewN mm, HQ.out.below.trans ⟨rfl, rfl, rfl, Nat.le_refl _, fun _ _ => rfl⟩⟩⟩, by simp [intOf]; omega⟩
        · have c3' : decide ((li.length : Int) > 20) = true := decide_eq_true (by omega)
          have c2' : decide ((i : Int) < 60) = true := decide_eq_true (by omega)
          go_wp2_with fail
          go_at_call 5
          refine (told_any _).mono ?_
          rintro x w4 ⟨rfl, hb4⟩
          go_wp2_with fail
          go_ret
          exact ⟨rfl, (HB.out.alloc HB.out.size _).trans (hb4.mono (Nat.le_trans HB.out.size (by simp)))⟩
      · have c2' : decide ((i : Int) < 60) = false := decide_eq_false (by omega)
        clear c2
        go_wp2_with fail
        go_at_call 5
        refine (told_any _).mono ?_
        rintro x w4 ⟨rfl, hb4⟩
        go_wp2_with fail
        go_ret
        exact ⟨rfl, HB.out.trans (hb4.mono HB.out.size)⟩
    · have c1' : len ≤ i := by omega
      clear c1
      go_wp2_with fail
      go_at_call 5
      refine (told_any _).mono ?_
      rintro x w4 ⟨rfl, hb4⟩
      go_wp2_with fail
      go_ret
      exact ⟨rfl, HB.out.trans (hb4.mono HB.out.size)⟩
theorem lawPlays {H : Type} {enc : TypeId × Value → H} {W : World} {base : Nat} {v0 : Value} {d0 : DataW H} {p0 : List MemPlace} {ts : List TypeId} {ds : List (DataW H)}
    (ov0 : Value.okWide Try.prog W .any base 34 v0) (k0 : DataW.Trod enc Try.prog W 0 (fun _ => true) true 34 v0 d0 p0)
    (_ : (DataW.weightsEach Try.prog ts ds).all (· ≤ reachBytes) = true) :
    Calls Try.prog 4 #[v0] W fun e w' => e = .returned (.bool true) ∧ Below W.heap.size W w' := by
  obtain ⟨A, n, c, K, N, C, rfl, ho⟩ := open_ops ov0 k0
  exact plays_any W A n c K N C ho
end Go.Proofs.Ytplabbnmongbaaa.Walks
