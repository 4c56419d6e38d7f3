/- Contract of the reference's Octal. -/
import Derived.Test.YtggjdfnkmhlliaaDoorSums
namespace Go.Proofs.YtggjdfnkmhlliaaDoor.Walks
open Go Go.RowKit Go.Proofs.YtggjdfnkmhlliaaDoor.Aid Go.Proofs.YtggjdfnkmhlliaaDoor.Own Go.Proofs.YtggjdfnkmhlliaaDoorW.PrintWords

theorem or_i64 (s : Nat) {v x : Int} (h0 : 0 ≤ v) (h1 : v * 2 ^ s < 2 ^ 63) (hx : 0 ≤ x) (hx2 : x < 2 ^ s) (hx3 : x < 2 ^ 63) : Go.bits .or .i64 (v * 2 ^ s) x = v * 2 ^ s + x := by
  have hp : (0 : Int) < 2 ^ s := Int.pow_pos (by decide)
  exact bits_join .i64 63 (by decide) stays_i64.2 s (v * 2 ^ s) x (Int.mul_nonneg h0 (Int.le_of_lt hp)) (Int.mul_emod_left _ _) h1 hx hx2 hx3
/-- What the reference's loops hold. -/
def RSt (b z : Nat) (done : Str) (v : Int) (far : Bool) : Prop := (far = false ∧ v = (numB b z done : Int) ∧ v ≤ 4611686018427387904) ∨ (far = true ∧ v = 0 ∧ MOST < numB b z done)
theorem rst_zero {b z : Nat} : RSt b z [] 0 false := Or.inl ⟨rfl, rfl, by decide⟩
theorem rst_far {b z : Nat} {done : Str} {v : Int} {x : UInt8} (hb : 1 ≤ b) (h : RSt b z done v true) : RSt b z (done ++ [x]) 0 true := by
  rcases h with ⟨h, _⟩ | ⟨_, _, h⟩
  · cases h
  · refine Or.inr ⟨rfl, rfl, ?_⟩
    rw [numB_snoc]
    have : numB b z done ≤ numB b z done * b := Nat.le_mul_of_pos_right _ hb
    omega
theorem rst_over {b z : Nat} {done : Str} {v : Int} {x : UInt8} (h : RSt b z done v false) (hv : 4611686018427387904 < v * b + ((x.toNat - z : Nat) : Int)) : RSt b z (done ++ [x]) 0 true := by
  rcases h with ⟨_, h, _⟩ | ⟨h, _⟩
  · refine Or.inr ⟨rfl, rfl, ?_⟩
    rw [numB_snoc]
    rw [h] at hv
    exact Int.ofNat_lt.mp (show ((4611686018427387904 : Nat) : Int) < _ by rw [Int.natCast_add, Int.natCast_mul]; exact hv)
  · cases h
theorem rst_next {b z : Nat} {done : Str} {v : Int} {x : UInt8} (h : RSt b z done v false) (hv : v * b + ((x.toNat - z : Nat) : Int) ≤ 4611686018427387904) : RSt b z (done ++ [x]) (v * b + ((x.toNat - z : Nat) : Int)) false := by
  rcases h with ⟨_, h, _⟩ | ⟨h, _⟩
  · refine Or.inl ⟨rfl, ?_, hv⟩
    rw [numB_snoc, h]; push_cast; rfl
  · cases h
theorem rst_nn {b z : Nat} {done : Str} {v : Int} (h : RSt b z done v false) : 0 ≤ v ∧ v ≤ 4611686018427387904 := by
  rcases h with ⟨_, h, h2⟩ | ⟨h, _⟩
  · omega
  · cases h
theorem rst_end {b z : Nat} {done : Str} {v : Int} {far : Bool} (h : RSt b z done v far) : ranged (numB b z done) = if far = true then (0, 7) else (v, 0) := by
  unfold ranged
  rcases h with ⟨rfl, h, h2⟩ | ⟨rfl, _, h⟩
  · have h3 : numB b z done ≤ MOST := by show numB b z done ≤ 4611686018427387904; omega
    rw [if_pos h3, h]; rfl
  · rw [if_pos rfl, if_neg (by omega)]
def ROAt (l m : Str) (i : Nat) (v : Int) (far : Bool) : Prop := ∃ done, m.takeWhile isOc = done ++ (l.drop i).takeWhile isOc ∧ m.dropWhile isOc = (l.drop i).dropWhile isOc ∧ RSt 8 48 done v far
theorem roat_next {l m : Str} {i : Nat} {v v' : Int} {far far' : Bool} {x : UInt8} (h : ROAt l m i v far) (hi : i < l.length) (hx : l.getD i 0 = x) (hp : isOc x = true) (hs : ∀ {done : Str}, RSt 8 48 done v far → RSt 8 48 (done ++ [x]) v' far') : ROAt l m (i + 1) v' far' := by
  obtain ⟨done, h1, h2, h3⟩ := h
  refine ⟨done ++ [x], ?_, ?_, hs h3⟩
  · rw [h1, takeWhile_on hi hx hp, List.append_assoc]; rfl
  · rw [h2, dropWhile_on hi hx hp]
def ROEnd (l m : Str) (i : Nat) (v : Int) (far : Bool) : Prop := m.dropWhile isOc = l.drop i ∧ (ranged (numB 8 48 (m.takeWhile isOc)) = if far = true then (0, 7) else (v, 0)) ∧ (far = false → 0 ≤ v ∧ v ≤ 4611686018427387904)
theorem roat_end {l m : Str} {i : Nat} {v : Int} {far : Bool} (h : ROAt l m i v far) (hx : l.length = i ∨ ∃ x, i < l.length ∧ l.getD i 0 = x ∧ isOc x = false) : ROEnd l m i v far := by
  obtain ⟨done, h1, h2, h3⟩ := h
  have e : (l.drop i).takeWhile isOc = [] ∧ (l.drop i).dropWhile isOc = l.drop i := by
    rcases hx with h | ⟨x, ha, hb, hc⟩
    · rw [drop_end h]; exact ⟨rfl, rfl⟩
    · exact ⟨takeWhile_off ha hb hc, dropWhile_off ha hb hc⟩
  rw [e.1, List.append_nil] at h1
  rw [e.2] at h2
  exact ⟨h2, by rw [h1, rst_end h3], fun e => rst_nn (e ▸ h3)⟩
set_option maxRecDepth 100000 in
set_option maxHeartbeats 8000000 in
theorem roctal_any (S : ByteArray) (w : World) (hs : S.size ≤ 1000000) : Calls Tryd.prog 27 #[.string S] w fun e w' => e = .returned (.tuple #[.int .i64 (octL S.data.toList).1, .int .i64 (octL S.data.toList).2]) ∧ w' = w := by
  have HS := Lib.hid hs
  have b0 : (S.size : Int) ≤ 1000000 := by omega
  have HE := Lib.hid (show S.data.toList.length = S.size from rfl)
  clear hs
  cases hl : S.data.toList with
  | nil =>
    have e1 : S.toList.isEmpty = true := by rw [Lib.toList_data, hl]; rfl
    clear hl
    go_enter Tryd.func27, Tryd.ntmps27
    go_wp2_with fail
    go_ret2
    exact ⟨rfl, rfl⟩
  | cons c r =>
    have e1 : S.toList.isEmpty = false := by rw [Lib.toList_data, hl]; rfl
    have hpos : 0 < S.size := by show 0 < S.data.toList.length; rw [hl]; simp
    have hx := index_at (S := S) (i := 0) hpos
    rw [hl, List.getD_cons_zero] at hx
    have HL := Lib.hid hl
    by_cases h128 : 128 ≤ c.toNat
    · have d1 : decide ((c.toNat : Int) ≥ 128) = true := decide_eq_true (by omega)
      have d1' : decide (128 ≤ c.toNat) = true := decide_eq_true h128
      have HO := Lib.hid (show octL (c :: r) = wideL (c :: r) by show (if 128 ≤ c.toNat then _ else _) = _; rw [if_pos h128])
      rw [HL.out] at HE
      have HE := Lib.hid (show r.length + 1 = S.size from HE.out)
      by_cases hc : c = 128
      · have e2 : ((c.toNat : Int) != 128) = false := by rw [hc]; rfl
        have HW := Lib.hid (HO.out.trans (show wideL (c :: r) = ranged (numB 256 0 r) by show (if c = 128 then _ else _) = _; rw [if_pos hc]))
        clear hc hl h128
        go_enter Tryd.func27, Tryd.ntmps27
        go_wp2_with fail
        clear hx
        go_loopw [4, 5, 6] (fun v4 v5 v6 u => ∃ (i : Nat) (v : Int) (far : Bool), v4 = .int .i64 v ∧ v5 = .bool far ∧ v6 = .int .i64 (i : Int) ∧ 1 ≤ i ∧ i ≤ S.size ∧ Hid (RSt 256 0 (r.take (i - 1)) v far) ∧ w = u) (fun _ _ i _ => S.size - (intOf i).toNat)
        case atStart => exact ⟨1, 0, false, rfl, rfl, rfl, by decide, by omega, Lib.hid rst_zero, rfl⟩
        case round =>
          obtain ⟨i, v, far, rfl, rfl, rfl, hi1, hi2, HV, rfl⟩ := hrel
          by_cases c1 : i < S.size
          · have d1 : decide ((i : Int) < (S.size : Int)) = true := decide_eq_true (by omega)
            have d1' : decide (i < S.size) = true := decide_eq_true c1
            have d2 : (i : Int) < (S.size : Int) := by omega
            have hxi := index_at c1
            rw [HL.out] at hxi
            obtain ⟨x, hxx⟩ : ∃ x, (c :: r).getD i 0 = x := ⟨_, rfl⟩
            rw [hxx] at hxi
            have hx2 := x.toNat_lt
            have HT := Lib.hid (show r.take (i + 1 - 1) = r.take (i - 1) ++ [x] by
              have hr : r.getD (i - 1) 0 = x := by
                rw [← hxx]
                obtain ⟨j, rfl⟩ : ∃ j, i = j + 1 := ⟨i - 1, by omega⟩
                rfl
              rw [show i + 1 - 1 = (i - 1) + 1 by omega, take_snoc (by have := HE.out; omega) hr])
            have b1 : (i : Int) ≤ 1000000 := by omega
            clear hxx c1
            cases far with
            | true =>
              go_wp2_with fail
              exact ⟨⟨i + 1, 0, true, rfl, rfl, by simp, by omega, by omega, Lib.hid (by rw [HT.out]; exact rst_far (by decide) HV.out), by trivial⟩, by simp [intOf]; omega⟩
            | false =>
              obtain ⟨hv1, hv2⟩ := rst_nn HV.out
              by_cases c4 : v > 18014398509481984
              · have t5 : decide (v > 18014398509481984) = true := decide_eq_true c4
                have HG := Lib.hid c4
                clear c4
                go_wp2_with fail
                exact ⟨⟨i + 1, 0, true, rfl, rfl, by simp, by omega, by omega, Lib.hid (by rw [HT.out]; exact rst_over HV.out (by have := HG.out; omega)), by trivial⟩, by simp [intOf]; omega⟩
              · have t5 : decide (v > 18014398509481984) = false := decide_eq_false c4
                have t6 : IntKind.i64.wrap (v * 256) = v * 256 := by rw [IntKind.wrap_i64]; omega
                have t7 : wrap64 (v * 256) = v * 256 := wrap64_in (by omega) (by omega)
                have HR := Lib.hid (or_i64 8 (v := v) (x := (x.toNat : Int)) (by omega) (by omega) (by omega) (by omega) (by omega))
                obtain ⟨y, hy⟩ : ∃ y, v * 256 + (x.toNat : Int) = y := ⟨_, rfl⟩
                have t8 : Go.bits .or .i64 (v * 256) (x.toNat : Int) = y := by rw [← hy]; exact HR.out
                have hy2 : y ≤ 4611686018427387904 + 255 := by omega
                have HY := Lib.hid (show y = v * (256 : Nat) + ((x.toNat - 0 : Nat) : Int) by rw [← hy]; rfl)
                by_cases c5 : y > 4611686018427387904
                · have t9 : decide (y > 4611686018427387904) = true := decide_eq_true c5
                  have HG := Lib.hid c5
                  clear c4 c5 hy
                  go_wp2_with fail
                  exact ⟨⟨i + 1, 0, true, rfl, rfl, by simp, by omega, by omega, Lib.hid (by rw [HT.out]; exact rst_over HV.out (by rw [← HY.out]; exact HG.out)), by trivial⟩, by simp [intOf]; omega⟩
                · have t9 : decide (y > 4611686018427387904) = false := decide_eq_false c5
                  have HG := Lib.hid c5
                  clear c4 c5 hy
                  go_wp2_with fail
                  exact ⟨⟨i + 1, y, false, rfl, rfl, by simp, by omega, by omega, Lib.hid (by rw [HT.out, HY.out]; exact rst_next HV.out (by rw [← HY.out]; have := HG.out; omega)), by trivial⟩, by simp [intOf]; omega⟩
          · have d1 : decide ((i : Int) < (S.size : Int)) = false := decide_eq_false (by omega)
            have d1' : decide (i < S.size) = false := decide_eq_false c1
            obtain rfl : i = S.size := by omega
            have HV2 := rst_end HV.out
            rw [show S.size - 1 = r.length by have := HE.out; omega, List.take_length] at HV2
            replace HV2 := Lib.hid HV2
            cases far with
            | true =>
              go_wp2_with fail
              go_ret2
              exact ⟨by rw [HW.out, HV2.out]; rfl, rfl⟩
            | false =>
              go_wp2_with fail
              go_ret2
              exact ⟨by rw [HW.out, HV2.out]; rfl, rfl⟩
      · have e2 : ((c.toNat : Int) != 128) = true := bne_iff_ne.mpr (fun e => hc (UInt8.toNat.inj (by exact_mod_cast e)))
        have HW := Lib.hid (HO.out.trans (show wideL (c :: r) = (0, 2) by show (if c = 128 then _ else _) = _; rw [if_neg hc]))
        clear hc hl h128
        go_enter Tryd.func27, Tryd.ntmps27
        go_wp2_with fail
        go_ret2
        exact ⟨by rw [HW.out]; rfl, rfl⟩
    have d1 : decide ((c.toNat : Int) ≥ 128) = false := decide_eq_false (by omega)
    have d1' : decide (128 ≤ c.toNat) = false := decide_eq_false h128
    have HO := Lib.hid (oct_low (r := r) h128)
    obtain ⟨l, hll⟩ : ∃ l, c :: r = l := ⟨_, rfl⟩
    rw [hll] at HO HL ⊢
    rw [HL.out] at HE
    clear hl h128 hll
    go_enter Tryd.func27, Tryd.ntmps27
    go_upto_block 2 with (fail)
    clear hx
    go_cut [7] from 44 to 55 (fun v4 wc => ∃ i : Nat, v4 = .int .i64 (i : Int) ∧ i ≤ S.size ∧ Hid (l.dropWhile isSp = l.drop i) ∧ w = wc)
    case first =>
      go_wp2_with fail
      go_loopw [7] (fun v4 u => ∃ i : Nat, v4 = .int .i64 (i : Int) ∧ i ≤ S.size ∧ Hid (l.dropWhile isSp = (l.drop i).dropWhile isSp) ∧ w = u) (fun i _ => S.size - (intOf i).toNat)
      case atStart => exact ⟨0, rfl, by omega, Lib.hid rfl, rfl⟩
      case round =>
        obtain ⟨i, rfl, hi, HI, rfl⟩ := hrel
        by_cases c1 : i < S.size
        · have d2 : decide ((i : Int) < (S.size : Int)) = true := decide_eq_true (by omega)
          have d2' : decide (i < S.size) = true := decide_eq_true c1
          have d3 : (i : Int) < (S.size : Int) := by omega
          have hx := index_at c1
          rw [HL.out] at hx
          have HC := Lib.hid c1
          obtain ⟨x, hxx⟩ : ∃ x, l.getD i 0 = x := ⟨_, rfl⟩
          rw [hxx] at hx
          have HX := Lib.hid hxx
          have b1 : (i : Int) ≤ 1000000 := by omega
          clear hxx c1
          have t1 := byte_eq (x := x) (y := 32) 32 rfl
          by_cases c2 : x = 32
          · rw [decide_eq_true c2] at t1
            have HI2 := Lib.hid (HI.out.trans (dropWhile_on (by rw [HE.out]; exact HC.out) HX.out (decide_eq_true c2)))
            clear c2
            go_wp2_with fail
            exact ⟨⟨i + 1, by simp, by omega, HI2, by trivial⟩, by simp [intOf]; omega⟩
          · rw [decide_eq_false c2] at t1
            have HI2 := Lib.hid (HI.out.trans (dropWhile_off (by rw [HE.out]; exact HC.out) HX.out (decide_eq_false c2)))
            clear c2
            go_wp2_with fail
            go_meet
            case rel => exact ⟨i, rfl, hi, HI2, by trivial⟩
        · have d2 : decide ((i : Int) < (S.size : Int)) = false := decide_eq_false (by omega)
          have d2' : decide (i < S.size) = false := decide_eq_false c1
          obtain rfl : i = S.size := by omega
          have HI2 := Lib.hid (show l.dropWhile isSp = l.drop S.size by rw [HI.out, drop_end HE.out]; rfl)
          clear c1
          go_wp2_with fail
          go_meet
          case rel => exact ⟨S.size, rfl, hi, HI2, by trivial⟩
    case rest =>
      obtain ⟨i0, rfl, hi0, HI, rfl⟩ := hcut
      obtain ⟨m, hm⟩ : ∃ m, l.dropWhile isSp = m := ⟨_, rfl⟩
      rw [hm] at HI HO
      have H0 := Lib.hid (show ROAt l m i0 0 false from ⟨[], by rw [HI.out]; rfl, by rw [HI.out], rst_zero⟩)
      clear HI hm
      go_upto_block 4 with (fail)
      go_cut [7, 8, 9] from 56 to 92 (fun v4 v5 v6 wc => ∃ (i : Nat) (v : Int) (far : Bool), v4 = .int .i64 (i : Int) ∧ v5 = .int .i64 v ∧ v6 = .bool far ∧ i ≤ S.size ∧ Hid (ROEnd l m i v far) ∧ w = wc)
      case first =>
        go_wp2_with fail
        go_loopw [7, 8, 9] (fun v4 v5 v6 u => ∃ (i : Nat) (v : Int) (far : Bool), v4 = .int .i64 (i : Int) ∧ v5 = .int .i64 v ∧ v6 = .bool far ∧ i ≤ S.size ∧ Hid (ROAt l m i v far) ∧ w = u) (fun i _ _ _ => S.size - (intOf i).toNat)
        case atStart => exact ⟨i0, 0, false, rfl, rfl, rfl, hi0, H0, rfl⟩
        case round =>
          obtain ⟨i, v, far, rfl, rfl, rfl, hi, HI, rfl⟩ := hrel
          by_cases c1 : i < S.size
          · have d2 : decide ((i : Int) < (S.size : Int)) = true := decide_eq_true (by omega)
            have d2' : decide (i < S.size) = true := decide_eq_true c1
            have d3 : (i : Int) < (S.size : Int) := by omega
            have hx := index_at c1
            rw [HL.out] at hx
            have HC := Lib.hid c1
            obtain ⟨x, hxx⟩ : ∃ x, l.getD i 0 = x := ⟨_, rfl⟩
            rw [hxx] at hx
            have HX := Lib.hid hxx
            have b1 : (i : Int) ≤ 1000000 := by omega
            clear hxx c1
            by_cases c2 : 48 ≤ x.toNat
            · have t1 : decide ((x.toNat : Int) ≥ 48) = true := decide_eq_true (by omega)
              have t1' : decide (48 ≤ x.toNat) = true := decide_eq_true c2
              by_cases c3 : x.toNat ≤ 55
              · have t2 : decide ((x.toNat : Int) ≤ 55) = true := decide_eq_true (by omega)
                have t2' : decide (x.toNat ≤ 55) = true := decide_eq_true c3
                have hO : isOc x = true := decide_eq_true ⟨c2, c3⟩
                have t3 : IntKind.u8.wrap ((x.toNat : Int) - 48) = ((x.toNat - 48 : Nat) : Int) := by rw [IntKind.wrap_u8]; omega
                obtain ⟨y, hy⟩ : ∃ y, x.toNat - 48 = y := ⟨_, rfl⟩
                rw [hy] at t3
                have hy8 : y < 8 := by omega
                have HY := Lib.hid hy
                have HO := Lib.hid hO
                clear c2 c3 hy hO
                cases far with
                | true =>
                  go_wp2_with fail
                  exact ⟨⟨i + 1, 0, true, by simp, rfl, rfl, by omega, Lib.hid (roat_next HI.out (by rw [HE.out]; exact HC.out) HX.out HO.out (fun h => rst_far (by decide) h)), by trivial⟩, by simp [intOf]; omega⟩
                | false =>
                  have hv : 0 ≤ v ∧ v ≤ 4611686018427387904 := by obtain ⟨_, _, _, h⟩ := HI.out; exact rst_nn h
                  obtain ⟨hv1, hv2⟩ := hv
                  by_cases c4 : v > 576460752303423488
                  · have t5 : decide (v > 576460752303423488) = true := decide_eq_true c4
                    have HG := Lib.hid c4
                    clear c4
                    go_wp2_with fail
                    exact ⟨⟨i + 1, 0, true, by simp, rfl, rfl, by omega, Lib.hid (roat_next HI.out (by rw [HE.out]; exact HC.out) HX.out HO.out (fun h => rst_over h (by have := HG.out; omega))), by trivial⟩, by simp [intOf]; omega⟩
                  · have t5 : decide (v > 576460752303423488) = false := decide_eq_false c4
                    have t6 : IntKind.i64.wrap (v * 8) = v * 8 := by rw [IntKind.wrap_i64]; omega
                    have t7 : wrap64 (v * 8) = v * 8 := wrap64_in (by omega) (by omega)
                    have HR := Lib.hid (or_i64 3 (v := v) (x := (y : Int)) (by omega) (by omega) (by omega) (by omega) (by omega))
                    obtain ⟨q, hq⟩ : ∃ q, v * 8 + (y : Int) = q := ⟨_, rfl⟩
                    have t8 : Go.bits .or .i64 (v * 8) (y : Int) = q := by rw [← hq]; exact HR.out
                    have HQ := Lib.hid (show q = v * (8 : Nat) + ((x.toNat - 48 : Nat) : Int) by rw [← hq, HY.out]; rfl)
                    have hq2 : q ≤ 4611686018427387904 + 7 := by omega
                    by_cases c5 : q > 4611686018427387904
                    · have t9 : decide (q > 4611686018427387904) = true := decide_eq_true c5
                      have HG := Lib.hid c5
                      clear c4 c5 hq
                      go_wp2_with fail
                      exact ⟨⟨i + 1, 0, true, by simp, rfl, rfl, by omega, Lib.hid (roat_next HI.out (by rw [HE.out]; exact HC.out) HX.out HO.out (fun h => rst_over h (by rw [← HQ.out]; exact HG.out))), by trivial⟩, by simp [intOf]; omega⟩
                    · have t9 : decide (q > 4611686018427387904) = false := decide_eq_false c5
                      have HG := Lib.hid c5
                      clear c4 c5 hq
                      go_wp2_with fail
                      exact ⟨⟨i + 1, q, false, by simp, rfl, rfl, by omega, Lib.hid (roat_next HI.out (by rw [HE.out]; exact HC.out) HX.out HO.out (fun h => by rw [HQ.out]; exact rst_next h (by rw [← HQ.out]; have := HG.out; omega))), by trivial⟩, by simp [intOf]; omega⟩
              · have t2 : decide ((x.toNat : Int) ≤ 55) = false := decide_eq_false (by omega)
                have t2' : decide (x.toNat ≤ 55) = false := decide_eq_false c3
                have HI2 := Lib.hid (roat_end HI.out (Or.inr ⟨x, by rw [HE.out]; exact HC.out, HX.out, decide_eq_false (fun h => c3 h.2)⟩))
                clear c2 c3
                go_wp2_with fail
                go_meet
                case rel => exact ⟨i, v, far, rfl, rfl, rfl, hi, HI2, by trivial⟩
            · have t1 : decide ((x.toNat : Int) ≥ 48) = false := decide_eq_false (by omega)
              have t1' : decide (48 ≤ x.toNat) = false := decide_eq_false c2
              have HI2 := Lib.hid (roat_end HI.out (Or.inr ⟨x, by rw [HE.out]; exact HC.out, HX.out, decide_eq_false (fun h => c2 h.1)⟩))
              clear c2
              go_wp2_with fail
              go_meet
              case rel => exact ⟨i, v, far, rfl, rfl, rfl, hi, HI2, by trivial⟩
          · have d2 : decide ((i : Int) < (S.size : Int)) = false := decide_eq_false (by omega)
            have d2' : decide (i < S.size) = false := decide_eq_false c1
            obtain rfl : i = S.size := by omega
            have HI2 := Lib.hid (roat_end HI.out (Or.inl HE.out))
            clear c1
            go_wp2_with fail
            go_meet
            case rel => exact ⟨S.size, v, far, rfl, rfl, rfl, hi, HI2, by trivial⟩
      case rest =>
        obtain ⟨i1, v, far, rfl, rfl, rfl, hi1, HI, rfl⟩ := hcut
        obtain ⟨t, ht⟩ : ∃ t, m.dropWhile isOc = t := ⟨_, rfl⟩
        have h1 := HI.out.1
        rw [ht] at h1 HO
        have h2 := HI.out.2.1
        have hv := HI.out.2.2
        rw [h2] at HO
        have HV := Lib.hid hv
        clear HI h2 ht hv
        have HI := Lib.hid (show t.all isEnd = (l.drop i1).all isEnd by rw [h1])
        clear h1
        go_wp2_with fail
        go_loopw [7] (fun v4 u => ∃ i : Nat, v4 = .int .i64 (i : Int) ∧ i ≤ S.size ∧ Hid (t.all isEnd = (l.drop i).all isEnd) ∧ w = u) (fun i _ => S.size - (intOf i).toNat)
        case atStart => exact ⟨i1, rfl, hi1, HI, rfl⟩
        case round =>
          obtain ⟨i, rfl, hi, HI, rfl⟩ := hrel
          by_cases c1 : i < S.size
          · have d2 : decide ((i : Int) < (S.size : Int)) = true := decide_eq_true (by omega)
            have d2' : decide (i < S.size) = true := decide_eq_true c1
            have d3 : (i : Int) < (S.size : Int) := by omega
            have hx := index_at c1
            rw [HL.out] at hx
            obtain ⟨x, hxx⟩ : ∃ x, l.getD i 0 = x := ⟨_, rfl⟩
            rw [hxx] at hx
            have HA := Lib.hid (HI.out.trans (all_at (by rw [HE.out]; exact c1) hxx))
            have b1 : (i : Int) ≤ 1000000 := by omega
            clear hxx c1
            have t1 : ((x.toNat : Int) != 32) = !decide (x = 32) := by show (!((x.toNat : Int) == 32)) = _; rw [byte_eq (x := x) (y := 32) 32 rfl]
            have t2 : ((x.toNat : Int) != 0) = !decide (x = 0) := by show (!((x.toNat : Int) == 0)) = _; rw [byte_eq (x := x) (y := 0) 0 rfl]
            by_cases c2 : isEnd x = true
            · have HA2 := Lib.hid (show t.all isEnd = (l.drop (i + 1)).all isEnd by rw [HA.out, c2, Bool.true_and])
              have c2 : x = 32 ∨ x = 0 := of_decide_eq_true c2
              by_cases c3 : x = 32
              · rw [decide_eq_true c3] at t1
                clear c3 c2 t2
                go_wp2_with fail
                exact ⟨⟨i + 1, by simp, by omega, HA2, by trivial⟩, by simp [intOf]; omega⟩
              · rw [decide_eq_false c3] at t1
                rw [decide_eq_true (c2.resolve_left c3)] at t2
                clear c3 c2
                go_wp2_with fail
                exact ⟨⟨i + 1, by simp, by omega, HA2, by trivial⟩, by simp [intOf]; omega⟩
            · have c2 := Bool.eq_false_iff.mpr c2
              have HA2 := Lib.hid (show t.all isEnd = false by rw [HA.out, c2, Bool.false_and])
              rw [decide_eq_false (fun e => of_decide_eq_false c2 (Or.inl e))] at t1
              rw [decide_eq_false (fun e => of_decide_eq_false c2 (Or.inr e))] at t2
              clear c2
              go_wp2_with fail
              go_ret2
              exact ⟨by rw [HO.out, HA2.out]; rfl, rfl⟩
          · have d2 : decide ((i : Int) < (S.size : Int)) = false := decide_eq_false (by omega)
            have d2' : decide (i < S.size) = false := decide_eq_false c1
            obtain rfl : i = S.size := by omega
            have HA2 := Lib.hid (show t.all isEnd = true by rw [HI.out, drop_end HE.out]; rfl)
            rw [HA2.out, if_pos rfl] at HO
            clear c1
            cases far with
            | true =>
              go_wp2_with fail
              go_ret2
              exact ⟨by rw [HO.out]; rfl, rfl⟩
            | false =>
              go_wp2_with fail
              go_ret2
              exact ⟨by rw [HO.out]; rfl, rfl⟩
end Go.Proofs.YtggjdfnkmhlliaaDoor.Walks
