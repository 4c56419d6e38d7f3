/- Contract of the reference's Read. -/
import Derived.Test.YtggjdfnkmhlliaaDoorRead
import Derived.Test.YtggjdfnkmhlliaaDoorOwnI
namespace Go.Proofs.YtggjdfnkmhlliaaDoor.Walks
open Go Go.RowKit Go.Proofs.YtggjdfnkmhlliaaDoor.Aid Go.Proofs.YtggjdfnkmhlliaaDoor.Own Go.Proofs.YtggjdfnkmhlliaaDoorW.PrintWords

def posN (i : Nat) : Nat := [100, 108, 116, 124, 136].getD i 0
def lenN (i : Nat) : Nat := [8, 8, 8, 12, 12].getD i 0
def numN (b : Str) (i : Nat) : Int := (octL (sub b (posN i) (lenN i))).1
def errN (b : Str) (i : Nat) : Int := (octL (sub b (posN i) (lenN i))).2
def numTab : Array Value := #[.int .i64 100, .int .i64 8, .int .i64 108, .int .i64 8, .int .i64 116, .int .i64 8, .int .i64 124, .int .i64 12, .int .i64 136, .int .i64 12]
theorem pq_at {i : Nat} (h : i < 5) : numTab[i * 2]? = some (.int .i64 (posN i : Int)) ∧ numTab[i * 2 + 1]? = some (.int .i64 (lenN i : Int)) ∧ 0 < posN i ∧ posN i + lenN i ≤ 512 ∧ 0 < lenN i := by
  rcases (show i = 0 ∨ i = 1 ∨ i = 2 ∨ i = 3 ∨ i = 4 by omega) with rfl | rfl | rfl | rfl | rfl <;> exact ⟨rfl, rfl, by decide, by decide, by decide⟩
set_option maxHeartbeats 800000 in
theorem rread_short {w : World} {A : Option Addr} {l : Str} {n c : Nat} (hn : l.length = n) (h : n < 512) : Calls Tryd.prog 12 #[.slice A n c] w (ReadPost (readL l) w) := by
  have HR := Lib.hid (show readL l = (hdr0, 5) from if_pos (by omega))
  have d1 : decide ((n : Int) < 512) = true := decide_eq_true (by omega)
  have d1' : decide (n < 512) = true := decide_eq_true h
  go_enter Tryd.func12, Tryd.ntmps12
  go_wp2_with (first
    | (with_reducible refine gate_store 24 rfl ?_; refine store_hdr rfl hdr0 _ _ rfl rfl rfl (alloc_new w (.cells (hrow hdr0) 24)) ?_; intro w2 hb3 ho3))
  exact bodyPost_ret (results_hdr (H := hdr0) rfl rfl rfl hb3) rfl ⟨by rw [HR.out]; rfl, ((Only.refl (fun _ => False) w).alloc _).trans ho3 (fun k hk => Or.inr (by rw [hk]; exact Nat.le_refl _))⟩
theorem quiet_conv {P : Program} {o : Oper} {a : Act} {C : World → Prop} {K : Act → Prop} {t u : TypeId} {v : Value} (x : Operand) (h : o.op = .convert t u x) (hv : ∀ w, C w → (convert t u (a.eval x)).run P w = .ok v w) (hk : K (a.put o.dst v)) : o.quiet P a C K :=
  ⟨v, fun w hw => by
    unfold Oper.quietAt execOp
    simp only [h, Sem.run_bind, hv w hw, Result.andThen_ok, Sem.run_pure]
    exact ⟨rfl, rfl⟩, hk⟩
theorem nums_yes {b : Str} (h : ∀ j, j < 5 → errN b j = 0) : numsOk b = true := by
  have h0 := h 0 (by decide)
  have h1 := h 1 (by decide)
  have h2 := h 2 (by decide)
  have h3 := h 3 (by decide)
  have h4 := h 4 (by decide)
  unfold numsOk
  rw [decide_eq_true (show (octL (sub b 100 8)).2 = 0 from h0), decide_eq_true (show (octL (sub b 108 8)).2 = 0 from h1), decide_eq_true (show (octL (sub b 116 8)).2 = 0 from h2), decide_eq_true (show (octL (sub b 124 12)).2 = 0 from h3), decide_eq_true (show (octL (sub b 136 12)).2 = 0 from h4)]; rfl
theorem nums_no {b : Str} {i : Nat} (hi : i < 5) (h : errN b i ≠ 0) : numsOk b = false := by
  unfold numsOk
  rcases (show i = 0 ∨ i = 1 ∨ i = 2 ∨ i = 3 ∨ i = 4 by omega) with rfl | rfl | rfl | rfl | rfl
  · rw [decide_eq_false (show ¬ (octL (sub b 100 8)).2 = 0 from h)]; simp
  · rw [decide_eq_false (show ¬ (octL (sub b 108 8)).2 = 0 from h)]; simp
  · rw [decide_eq_false (show ¬ (octL (sub b 116 8)).2 = 0 from h)]; simp
  · rw [decide_eq_false (show ¬ (octL (sub b 124 12)).2 = 0 from h)]; simp
  · rw [decide_eq_false (show ¬ (octL (sub b 136 12)).2 = 0 from h)]; simp
theorem add_block (a : Addr) (i : Nat) : (a.add i).block = a.block := by unfold Addr.add; split <;> rfl
theorem int_at (w : World) (x : Int) : OwnI.RdI (w.alloc (.cells #[.int .i64 x] 3)) (some ⟨w.heap.size, 0, none⟩) [x] := fun _ => ⟨_, rfl, fun j hj => by
  have e : j = 0 := by simpa using hj
  subst e
  rw [show (⟨w.heap.size, 0, none⟩ : Addr).add 0 = ⟨w.heap.size, 0, none⟩ from rfl]
  have := Joins.cell_of_block (alloc_new w (.cells #[.int .i64 x] 3)) 0
  rw [this]
  rfl⟩
attribute [-go_sem] storeVar
attribute [local go_sem] sv3 sv4 sv22
set_option maxHeartbeats 4000000 in
theorem rread_any {w : World} {ad : Addr} {l : Str} {n c : Nat} (hn : l.length = n) (h : 512 ≤ n) (hc : n ≤ c) (h2 : n ≤ 1000000) (hR : RdU w (some ad) l) : Calls Tryd.prog 12 #[.slice (some ad) n c] w (ReadPost (readL l) w) := by
  have HR := Lib.hid (show readL l = if (headOk (l.take 512) && numsOk (l.take 512)) = true then (hdrOf (l.take 512), 0) else (hdr0, 2) from if_neg (by omega))
  have d1 : decide ((n : Int) < 512) = false := decide_eq_false (by omega)
  have d1' : decide (n < 512) = false := decide_eq_false (by omega)
  have q1 : (512 : Int) ≤ (c : Int) := by omega
  obtain ⟨b, hb⟩ : ∃ b, l.take 512 = b := ⟨_, rfl⟩
  have hbl : b.length = 512 := by rw [← hb, List.length_take]; omega
  have hRb : RdU w (some ad) b := by rw [← hb]; exact hR.take 512
  rw [hb] at HR
  have HO := Lib.hid ((Only.refl (fun _ => False) w).alloc (.cells (hrow hdr0) 24))
  have hb2 := alloc_new w (.cells (hrow hdr0) 24)
  obtain ⟨g1, hg1⟩ : ∃ g1, w.heap.size = g1 := ⟨_, rfl⟩
  obtain ⟨W, hW⟩ : ∃ W, w.alloc (.cells (hrow hdr0) 24) = W := ⟨_, rfl⟩
  rw [hW, hg1] at hb2
  rw [hW] at HO
  have HRb := Lib.hid (hRb.only HO.out)
  have hS1 := str_sub 257 8 (c - 257) (by decide) HRb.out (by omega)
  have hS2 := str_sub 148 8 (c - 148) (by decide) HRb.out (by omega)
  have HB2 := Lib.hid hb2
  have HBL := Lib.hid hbl
  have HGL := Lib.hid (show w.heap.size ≤ g1 by omega)
  have HAB := Lib.hid (show ad.block < g1 by
    obtain ⟨ad', ea, hcell⟩ := hRb.cells (by omega)
    injection ea with ea
    subst ea
    have := World.block_lt_of_cell? w _ (hcell 0 (by omega))
    rw [show ad.add 0 = ad from rfl] at this
    omega)
  have HT := Lib.hid (show headOk b = (decide (sub b 257 8 = magic) && decide ((octL (sub b 148 8)).2 = 0) && decide ((octL (sub b 148 8)).1 = sumOf b)) from rfl)
  obtain ⟨s1, hs1⟩ : ∃ s1, sub b 257 8 = s1 := ⟨_, rfl⟩
  obtain ⟨s2, hs2⟩ : ∃ s2, sub b 148 8 = s2 := ⟨_, rfl⟩
  have hl2 : s2.length = 8 := by rw [← hs2, sub_len (by omega)]
  rw [hs1] at hS1 HT
  rw [hs2] at hS2 HT
  have HO2 := Lib.hid (roctal_any (B s2) W (by rw [B_size]; omega))
  rw [B_data] at HO2
  obtain ⟨v, hv⟩ : ∃ v, (octL s2).1 = v := ⟨_, rfl⟩
  obtain ⟨e, he⟩ : ∃ e, (octL s2).2 = e := ⟨_, rfl⟩
  rw [hv, he] at HO2 HT
  have HSM := Lib.hid (rsum_any (c := c) hbl HRb.out)
  obtain ⟨z, hz⟩ : ∃ z, sumOf b = z := ⟨_, rfl⟩
  rw [hz] at HSM HT
  clear hs1 hs2 hl2 hv he hz hb2 hbl hn hR hb
  clear hRb
  have m1 : ((B s1).toList == ([117, 115, 116, 97, 114, 0, 48, 48] : List UInt8)) = decide (s1 = magic) := by rw [toList_B, beq_decide]; rfl
  have HGW := Lib.hid (And.intro hg1 hW)
  clear hg1 hW
  go_enter Tryd.func12, Tryd.ntmps12
  go_upto_region 4 with (fail)
  change Code.wp Tryd.prog _ _ _ (w.alloc (.cells (hrow hdr0) 24))
  rw [HGW.out.2, HGW.out.1]
  clear d1 d1' h
  by_cases c2 : s1 = magic
  · rw [decide_eq_true c2] at m1
    rw [decide_eq_true c2, Bool.true_and] at HT
    clear c2
    by_cases c3 : e = 0
    · have d2 : (e != 0) = false := by rw [c3]; rfl
      rw [decide_eq_true c3, Bool.true_and] at HT
      clear c3
      by_cases c4 : v = z
      · have d3 : (v != z) = false := by rw [c4]; simp
        rw [decide_eq_true c4] at HT
        clear c4
        go_upto_region 10 with (first
          | (go_at_call 27; refine HO2.out.mono ?_; rintro x w1 ⟨rfl, hw⟩; rw [hw]; clear hw)
          | (go_at_call 10; refine HSM.out.mono ?_; rintro x w1 ⟨rfl, hw⟩; rw [hw]; clear hw))
        change Code.wp Tryd.prog _ _ _ (W.alloc (.cells numTab 41))
        have hT := alloc_new W (.cells numTab 41)
        have HW := Lib.hid (And.intro (HRb.out.only ((Only.refl (fun _ => False) W).alloc (.cells numTab 41))) (And.intro (HO.out.alloc (.cells numTab 41)) ((alloc_old W (.cells numTab 41) (Only.heap_lt HB2.out)).trans HB2.out)))
        have HGT := Lib.hid (show g1 < (W.alloc (.cells numTab 41)).heap.size ∧ W.heap.size < (W.alloc (.cells numTab 41)).heap.size by rw [alloc_size]; have := Only.heap_lt HB2.out; omega)
        obtain ⟨gt, hgt⟩ : ∃ gt, W.heap.size = gt := ⟨_, rfl⟩
        obtain ⟨T, hTT⟩ : ∃ T, W.alloc (.cells numTab 41) = T := ⟨_, rfl⟩
        rw [hTT, hgt] at hT HGT
        replace HGT := Lib.hid HGT.out
        rw [hTT] at HW
        rw [hTT, hgt]
        have HTab := Lib.hid hT
        clear hT hTT hgt HO HRb HB2 HSM HGW hS1 hS2 HO2
        clear W
        go_wp2_with fail
        go_loopw [7, 8, 9, 10] (fun v7 v8 _ _ u => ∃ i : Nat, v8 = .int .i64 (i : Int) ∧ i ≤ 5 ∧ Hid (OwnI.Own T.heap.size u v7 ((List.range i).map (numN b))) ∧ Hid (∀ j, j < i → errN b j = 0) ∧ Hid (Below T.heap.size T u)) (fun _ i _ _ _ => 5 - (intOf i).toNat)
        case atStart => exact ⟨0, rfl, by decide, Lib.hid (OwnI.own_nil _ _), Lib.hid (fun j h => absurd h (by omega)), Lib.hid (Below.refl _ _)⟩
        case round =>
          obtain ⟨i, rfl, hi, HOw, HER, HBe⟩ := hrel
          by_cases c5 : i < 5
          · have d5 : decide ((i : Int) < 5) = true := decide_eq_true (by omega)
            have d6 : (i : Int) < 5 := by omega
            have b1 : (i : Int) ≤ 1000000 := by omega
            have hpq := pq_at c5
            have hTw := (HBe.out.block gt HGT.out.2).trans HTab.out
            have k1 : wr.cell? ⟨gt, i * 2, none⟩ = some (.int .i64 (posN i : Int)) := (Joins.cell_of_block hTw _).trans hpq.1
            have k2 : wr.cell? ⟨gt, i * 2 + 1, none⟩ = some (.int .i64 (lenN i : Int)) := (Joins.cell_of_block hTw _).trans hpq.2.1
            have hRw : RdU wr (some ad) b := HW.out.1.below HBe.out
            have hE : numN b i = (octL (sub b (posN i) (lenN i))).1 := rfl
            have hN : errN b i = (octL (sub b (posN i) (lenN i))).2 := rfl
            obtain ⟨p, hp⟩ : ∃ p, posN i = p := ⟨_, rfl⟩
            obtain ⟨q, hq⟩ : ∃ q, lenN i = q := ⟨_, rfl⟩
            rw [hp, hq] at hE hN hpq
            rw [hp] at k1
            rw [hq] at k2
            obtain ⟨_, _, p1, p2, p3⟩ := hpq
            have hs : ∀ u, RdU u (some ad) b → (convert 22 9 (.slice (some (ad.add p)) (((p : Int) + (q : Int)).toNat - p) (c - p))).run Tryd.prog u = .ok (.string (B (sub b p q))) u := fun u hu => by
              rw [show ((p : Int) + (q : Int)).toNat - p = q by omega]
              exact str_u (c - p) (hu.sub p q) (sub_len (by have := HBL.out; omega))
            replace hs := Lib.hid hs
            have HL8 := Lib.hid (show (sub b p q).length = q from sub_len (by have := HBL.out; omega))
            obtain ⟨s, hss⟩ : ∃ s, sub b p q = s := ⟨_, rfl⟩
            rw [hss] at hE hN hs HL8
            have w1 : (p : Int) + q ≤ 1000000 := by omega
            have w2 : (p : Int) + q ≤ (c : Int) := by omega
            have w3 : (p : Int) ≤ (p : Int) + q := by omega
            have w4 : IntKind.i64.wrap ((p : Int) + q) = (p : Int) + q := by rw [IntKind.wrap_i64]; omega
            have w5 : IntKind.i64.wrap (p : Int) = (p : Int) := by rw [IntKind.wrap_i64]; omega
            have w6 : IntKind.i64.wrap (q : Int) = (q : Int) := by rw [IntKind.wrap_i64]; omega
            have w7 : (0 : Int) ≤ (p : Int) ∧ (0 : Int) ≤ (p : Int) + q := by omega
            go_upto_region 14 with (fail)
            have hs0 : ∀ k, (convert 22 9 (.slice (some (ad.add p)) (((p : Int) + (q : Int)).toNat - p) (c - p))).run Tryd.prog (wr.drewN k) = .ok (.string (B s)) (wr.drewN k) := fun k => hs.out _ (hRw.only ((Only.refl (fun _ => False) wr).drewN k))
            refine wp_region_quiet_lit (by kernel_rfl) (by kernel_rfl) ?_
            repeat (go_big_quiet_step (fail))
            go_big_quiet_want
            refine quiet_conv _ rfl (v := .string (B s)) (fun w hw => by obtain ⟨k, rfl⟩ := hw; exact hs0 k) ?_
            simp only [Act.put, List.setIfInBounds_toArray, List.set_cons_zero, List.set_cons_succ]
            go_big_quiet_on
            repeat (go_big_quiet_step ((go_at_call 27; exact Calls.quiet_of_same (roctal_any (B s) _ (by rw [B_size]; have := HL8.out; omega)))))
            refine wpQuiet_nil ?_
            rintro _ ⟨nq, rfl⟩
            rw [B_data, ← hE, ← hN]
            clear hs0 hs k1 k2 hp hq p1 p2 p3 w1 w2 w3 w4 w5 w6 w7 hRw hTw
            have HB2 := Lib.hid (show (wr.drewN nq).heap[g1]? = some (.cells (hrow hdr0) 24 (0, 0)) from (HBe.out.block g1 HGT.out.1).trans HW.out.2.2)
            have HOw := Lib.hid (OwnI.own_only HOw.out ((Only.refl (fun _ => False) wr).drewN nq))
            have HBe := Lib.hid (HBe.out.trans (⟨rfl, rfl, rfl, Nat.le_refl _, fun _ _ => rfl⟩ : Below T.heap.size wr (wr.drewN nq)))
            obtain ⟨u, hu⟩ : ∃ u, wr.drewN nq = u := ⟨_, rfl⟩
            rw [hu] at HB2 HOw HBe ⊢
            clear hu hE hN hss
            by_cases c6 : errN b i = 0
            · have HER2 := Lib.hid (show ∀ j, j < i + 1 → errN b j = 0 from fun j hj => by
                by_cases e : j = i
                · rw [e]; exact c6
                · exact HER.out j (by omega))
              have HL := Lib.hid (show (List.range i).map (numN b) ++ [numN b i] = (List.range (i + 1)).map (numN b) by rw [List.range_succ, List.map_append]; rfl)
              rw [c6]
              clear c6
              obtain ⟨y, hy⟩ : ∃ y, numN b i = y := ⟨_, rfl⟩
              rw [hy] at HL ⊢
              clear hy
              go_wp2_with (first
                | (with_reducible refine gate 77 rfl ?_
                   go_must (refine OwnI.own_append (base := T.heap.size) (w0 := T) rfl (.tmp 74) (.tmp 76) rfl u7 _ [y] _ 1 1 rfl rfl rfl (OwnI.own_only HOw.out ((Only.refl _ u).alloc _)) (int_at u y) (HBe.out.alloc HBe.out.size _) (by rw [alloc_size]; have := HBe.out.size; omega) (by rw [List.length_map, List.length_range]; simp only [List.length_cons, List.length_nil]; omega) ?_
                            intro v5 w5 hO5 hB5 hs5)))
              exact ⟨⟨i + 1, by simp, by omega, Lib.hid (by rw [← HL.out]; exact hO5), HER2, Lib.hid hB5⟩, by simp [intOf]; omega⟩
            · have d7 : (errN b i != 0) = true := bne_iff_ne.mpr c6
              have HR2 := Lib.hid (show readL l = (hdr0, 2) by rw [HR.out, HT.out, nums_no c5 c6]; rfl)
              obtain ⟨y, hy⟩ : ∃ y, errN b i = y := ⟨_, rfl⟩
              rw [hy] at d7 ⊢
              clear c6 hy
              go_wp2_with (first
                | (with_reducible refine gate_store 24 rfl ?_; refine store_hdr rfl hdr0 _ _ rfl rfl rfl HB2.out ?_; intro w2 hb3 ho3))
              exact bodyPost_ret (results_hdr (H := hdr0) rfl rfl rfl hb3) rfl ⟨by rw [HR2.out]; rfl, (HW.out.2.1.trans' (Only.of_below HBe.out _)).trans ho3 (fun k hk => Or.inr (by rw [hk]; exact HGL.out))⟩
          · have d5 : decide ((i : Int) < 5) = false := decide_eq_false (by omega)
            obtain rfl : i = 5 := by omega
            have HR2 := Lib.hid (show readL l = (hdrOf b, 0) by rw [HR.out, HT.out, nums_yes HER.out]; rfl)
            obtain ⟨g7, cap, e7, hg7, hc7⟩ := OwnI.own_form HOw.out (by simp)
            replace e7 := e7.trans (show _ = Value.slice (some ⟨g7, 0, none⟩) 5 cap from rfl)
            subst e7
            have n0 := hc7 0 (by simp)
            have n1 := hc7 1 (by simp)
            have n2 := hc7 2 (by simp)
            have n3 := hc7 3 (by simp)
            have n4 := hc7 4 (by simp)
            have hRw : RdU wr (some ad) b := HW.out.1.below HBe.out
            have c156 : wr.cell? ⟨ad.block, ad.off + 156, none⟩ = some (.int .u8 ((b.getD 156 0).toNat : Int)) := by
              obtain ⟨ad', ea, hcell⟩ := hRw.cells (by have := HBL.out; omega)
              injection ea with ea
              subst ea
              rw [← add_pos ad (a := 156) (by decide)]
              exact hcell 156 (by have := HBL.out; omega)
            have HB2 := Lib.hid (show wr.drew.heap[g1]? = some (.cells (hrow hdr0) 24 (0, 0)) from (HBe.out.block g1 HGT.out.1).trans HW.out.2.2)
            have HN := Lib.hid (show g7 ≠ g1 by have := HGT.out.1; omega)
            have HOn := Lib.hid (HW.out.2.1.trans' (Only.of_below HBe.out _))
            have hS0 : wr.drew.cell? ⟨g7, 0, none⟩ = some (.int .i64 (numN b 0)) ∧ wr.drew.cell? ⟨g7, 1, none⟩ = some (.int .i64 (numN b 1)) ∧ wr.drew.cell? ⟨g7, 2, none⟩ = some (.int .i64 (numN b 2)) ∧ wr.drew.cell? ⟨g7, 3, none⟩ = some (.int .i64 (numN b 3)) ∧ wr.drew.cell? ⟨g7, 4, none⟩ = some (.int .i64 (numN b 4)) ∧ wr.drew.cell? ⟨ad.block, ad.off + 156, none⟩ = some (.int .u8 ((b.getD 156 0).toNat : Int)) ∧ RdU wr.drew (some ad) b ∧ Only (fun _ => False) w wr.drew := ⟨n0, n1, n2, n3, n4, c156, hRw.only ((Only.refl _ wr).drew), HOn.out.drew⟩
            clear hc7 n0 n1 n2 n3 n4 c156 hRw HOn HOw
            have HHd := Lib.hid (show (⟨upTo0 (sub b 0 100), upTo0 (sub b 345 155), upTo0 (sub b 157 100), numN b 0, numN b 1, numN b 2, numN b 3, numN b 4, b.getD 156 0, upTo0 (sub b 265 32), upTo0 (sub b 297 32)⟩ : Hdr) = hdrOf b from rfl)
            obtain ⟨m0, hm0⟩ : ∃ m0, numN b 0 = m0 := ⟨_, rfl⟩
            obtain ⟨m1', hm1⟩ : ∃ m1', numN b 1 = m1' := ⟨_, rfl⟩
            obtain ⟨m2, hm2⟩ : ∃ m2, numN b 2 = m2 := ⟨_, rfl⟩
            obtain ⟨m3, hm3⟩ : ∃ m3, numN b 3 = m3 := ⟨_, rfl⟩
            obtain ⟨m4, hm4⟩ : ∃ m4, numN b 4 = m4 := ⟨_, rfl⟩
            obtain ⟨y, hy⟩ : ∃ y, b.getD 156 0 = y := ⟨_, rfl⟩
            rw [hm0, hm1, hm2, hm3, hm4, hy] at hS0 HHd
            clear hm0 hm1 hm2 hm3 hm4 hy HER hg7
            have HKP := Lib.hid (show ∀ u, Only (fun k => k = g1) wr.drew u → u.cell? ⟨g7, 0, none⟩ = some (.int .i64 m0) ∧ u.cell? ⟨g7, 1, none⟩ = some (.int .i64 m1') ∧ u.cell? ⟨g7, 2, none⟩ = some (.int .i64 m2) ∧ u.cell? ⟨g7, 3, none⟩ = some (.int .i64 m3) ∧ u.cell? ⟨g7, 4, none⟩ = some (.int .i64 m4) ∧ u.cell? ⟨ad.block, ad.off + 156, none⟩ = some (.int .u8 (y.toNat : Int)) ∧ RdU u (some ad) b ∧ Only (fun _ => False) w u from fun u ho => by
              obtain ⟨k0, k1, k2, k3, k4, k5, k6, k7⟩ := hS0
              refine ⟨ho.cell k0 HN.out, ho.cell k1 HN.out, ho.cell k2 HN.out, ho.cell k3 HN.out, ho.cell k4 HN.out, ho.cell k5 (show ¬ ad.block = g1 by have := HAB.out; omega), RdU.of_cells fun j hj => ?_, k7.trans ho (fun k hk => Or.inr (by rw [hk]; exact HGL.out))⟩
              obtain ⟨ad', ea, hcell⟩ := k6.cells (by omega)
              injection ea with ea
              subst ea
              refine ho.cell (hcell j hj) ?_
              rw [add_block]
              have := HAB.out; omega)
            go_upto_region 18 with (fail)
            go_region_held3 (fun u => u.cell? ⟨g7, 0, none⟩ = some (.int .i64 m0) ∧ u.cell? ⟨g7, 1, none⟩ = some (.int .i64 m1') ∧ u.cell? ⟨g7, 2, none⟩ = some (.int .i64 m2) ∧ u.cell? ⟨g7, 3, none⟩ = some (.int .i64 m3) ∧ u.cell? ⟨g7, 4, none⟩ = some (.int .i64 m4) ∧ u.cell? ⟨ad.block, ad.off + 156, none⟩ = some (.int .u8 (y.toNat : Int)) ∧ RdU u (some ad) b ∧ Only (fun _ => False) w u) (first | exact hS0 | exact HKP.out _ (by assumption)) (first
              | (go_at_call 28; refine (rtext_any (ad := ad) (L := 512) (c := c) _ _ HBL.out (by omega) (by decide) (by decide) (by decide) hS0.2.2.2.2.2.2.1).mono ?_; rintro x w8 ⟨rfl, rfl⟩)
              | ((refine upon_hdr (H0 := hdr0) (H := ⟨upTo0 (sub b 0 100), upTo0 (sub b 345 155), upTo0 (sub b 157 100), m0, m1', m2, m3, m4, y, upTo0 (sub b 265 32), upTo0 (sub b 297 32)⟩) (B := w.heap.size) HB2.out HGL.out ?_; intro w9 hb9 ho9 hg9)))
            go_wp2_with fail
            exact bodyPost_ret (results_hdr (H := ⟨upTo0 (sub b 0 100), upTo0 (sub b 345 155), upTo0 (sub b 157 100), m0, m1', m2, m3, m4, y, upTo0 (sub b 265 32), upTo0 (sub b 297 32)⟩) rfl rfl rfl hb9) rfl ⟨by rw [HR2.out, ← HHd.out]; rfl, (HKP.out _ ho9).2.2.2.2.2.2.2⟩
      · have d3 : (v != z) = true := bne_iff_ne.mpr c4
        rw [decide_eq_false c4] at HT
        have HR2 := Lib.hid (show readL l = (hdr0, 2) by rw [HR.out, HT.out]; rfl)
        clear c4
        go_wp2_with (first
          | (go_at_call 27; refine HO2.out.mono ?_; rintro x w1 ⟨rfl, hw⟩; rw [hw]; clear hw)
          | (go_at_call 10; refine HSM.out.mono ?_; rintro x w1 ⟨rfl, hw⟩; rw [hw]; clear hw)
          | (with_reducible refine gate_store 24 rfl ?_; refine store_hdr rfl hdr0 _ _ rfl rfl rfl HB2.out ?_; intro w2 hb3 ho3))
        exact bodyPost_ret (results_hdr (H := hdr0) rfl rfl rfl hb3) rfl ⟨by rw [HR2.out]; rfl, HO.out.trans ho3 (fun k hk => Or.inr (by rw [hk]; exact HGL.out))⟩
    · have d2 : (e != 0) = true := bne_iff_ne.mpr c3
      rw [decide_eq_false c3, Bool.false_and] at HT
      have HR2 := Lib.hid (show readL l = (hdr0, 2) by rw [HR.out, HT.out]; rfl)
      clear c3
      go_wp2_with (first
        | (go_at_call 27; refine HO2.out.mono ?_; rintro x w1 ⟨rfl, hw⟩; rw [hw]; clear hw)
        | (with_reducible refine gate_store 24 rfl ?_; refine store_hdr rfl hdr0 _ _ rfl rfl rfl HB2.out ?_; intro w2 hb3 ho3))
      exact bodyPost_ret (results_hdr (H := hdr0) rfl rfl rfl hb3) rfl ⟨by rw [HR2.out]; rfl, HO.out.trans ho3 (fun k hk => Or.inr (by rw [hk]; exact HGL.out))⟩
  · rw [decide_eq_false c2] at m1
    rw [decide_eq_false c2, Bool.false_and, Bool.false_and] at HT
    have HR2 := Lib.hid (show readL l = (hdr0, 2) by rw [HR.out, HT.out]; rfl)
    clear c2
    go_wp2_with (first
      | (with_reducible refine gate_store 24 rfl ?_; refine store_hdr rfl hdr0 _ _ rfl rfl rfl HB2.out ?_; intro w2 hb3 ho3))
    exact bodyPost_ret (results_hdr (H := hdr0) rfl rfl rfl hb3) rfl ⟨by rw [HR2.out]; rfl, HO.out.trans ho3 (fun k hk => Or.inr (by rw [hk]; exact HGL.out))⟩
end Go.Proofs.YtggjdfnkmhlliaaDoor.Walks
