/- Contract of the reference's Format. -/
import Derived.Test.YtgleehnmnmmdcaaDoorRefZ
namespace Go.Proofs.YtgleehnmnmmdcaaDoor.Walks
open Go Go.RowKit Go.Proofs.YtgleehnmnmmdcaaDoor.Aid Go.Proofs.YtgleehnmnmmdcaaDoor.Own

def zerosOf (l : List Int) : Bool := decide (512 ≤ l.length) && noughts (l.take 512)
/-- What stands in 'zeros' before the i-th round. -/
def zat (l : List Int) (i : Nat) (b : Bool) : Prop := b = true ↔ 512 ≤ l.length ∧ ∀ j, j < i → l.getD j 0 = 0
theorem zat_zero (l : List Int) : zat l 0 (decide ((l.length : Int) ≥ 512)) := by
  unfold zat
  rw [decide_eq_true_iff]
  exact ⟨fun h => ⟨by omega, fun j hj => absurd hj (by omega)⟩, fun h => by omega⟩
theorem zat_step {l : List Int} {i : Nat} {x : Int} (h : zat l i true) (hx : l.getD i 0 = x) : zat l (i + 1) (x == 0) := by
  unfold zat at h ⊢
  have h := h.1 rfl
  rw [beq_iff_eq]
  constructor
  · intro e
    refine ⟨h.1, fun j hj => ?_⟩
    by_cases c : j < i
    · exact h.2 j c
    · rw [show j = i by omega, hx, e]
  · intro e
    rw [← hx]; exact e.2 i (by omega)
theorem zat_noughts {l : List Int} (hl : 512 ≤ l.length) : noughts (l.take 512) = true ↔ ∀ j, j < 512 → l.getD j 0 = 0 := by
  unfold noughts
  rw [decide_eq_true_iff, List.length_take]
  constructor
  · intro h j hj
    have := h j (by omega)
    rwa [getD_take hj] at this
  · intro h j hj
    rw [getD_take (by omega)]; exact h j (by omega)
theorem zat_out {l : List Int} {i : Nat} (h : zat l i false) (hi : i ≤ 512) : zerosOf l = false := by
  unfold zerosOf
  by_cases hl : 512 ≤ l.length
  · rw [decide_eq_true hl, Bool.true_and]
    by_cases c : noughts (l.take 512) = true
    · have := (zat_noughts hl).1 c
      have := h.2 ⟨hl, fun j hj => this j (by omega)⟩
      cases this
    · exact Bool.eq_false_iff.mpr c
  · rw [decide_eq_false hl]; rfl
theorem zat_full {l : List Int} {b : Bool} (h : zat l 512 b) : zerosOf l = b := by
  cases b with
  | false => exact zat_out h (Nat.le_refl _)
  | true =>
    have h := h.1 rfl
    unfold zerosOf
    rw [decide_eq_true h.1, Bool.true_and]
    exact (zat_noughts h.1).2 h.2
theorem fmt_six (l : List Int) (e : Bool) : fmtOf l e = pick (pre [80, 75, 3, 4] l || pre [80, 75, 5, 6] l) (pre [31, 139] l) (pre [48, 55, 48, 55, 48, 49] l) (ustar l || zerosOf l) (!e && decide (l.length < 512)) (zlibOf l) := rfl
theorem rb {l : List Int} (m : List Int) (b : Bool) {w : World} {A : Option Addr} {c n : Nat} (S : ByteArray) (hn : l.length = n) (hS : S = strOfNums m) (hc : n ≤ c) (hA : RdK .u8 w A l) (bl : Bytes l) (bm : Bytes m) (hb : pre m l = b) (k : Nat) :
    Calls Tryd.prog 17 #[.slice A n c, .string S] (w.drewN k) fun x w' => x = .returned (.bool b) ∧ ∃ k, w' = w.drewN k := by
  subst hn hb
  refine (rbegins_any S hS hc (rd_only hA ((Only.refl (fun _ => False) w).drewN k)) bl bm).mono ?_
  rintro x w' ⟨rfl, j, rfl⟩
  exact ⟨rfl, k + j, World.drewN_drewN _ _ _⟩
def RFmtPost (l : List Int) (e : Bool) (w : World) (x : Ending) (w' : World) : Prop := x = .returned (.tuple #[.int .i64 (fmtOf l e).1, .int .i64 (fmtOf l e).2]) ∧ ∃ k, w' = w.drewN k
theorem ustar_str {l : List Int} (h : 263 ≤ l.length) (bl : Bytes l) : ((strOfNums ((l.drop 257).take 6)).toList == ([117, 115, 116, 97, 114, 0] : List UInt8)) = ustar l := by
  rw [show ([117, 115, 116, 97, 114, 0] : List UInt8) = (strOfNums [117, 115, 116, 97, 114, 0]).toList by rw [Lib.toList_data]; rfl, str_eq]
  unfold ustar
  rw [decide_eq_true h, Bool.true_and]
  exact decide_eq_decide.mpr (str_inj (fun x hx => bl x (List.mem_of_mem_drop (List.mem_of_mem_take hx))) (by unfold Bytes; decide))
set_option maxHeartbeats 8000000 in
theorem rformat_any {w : World} {A : Option Addr} {l : List Int} {c n : Nat} (e : Bool) (hn : l.length = n) (hc : n ≤ c) (hA : RdK .u8 w A l) (bl : Bytes l) : Calls Tryd.prog 9 #[.slice A n c, .bool e] w (RFmtPost l e w) := by
  have HA := Lib.hid hA
  have BL := Lib.hid bl
  have HC := Lib.hid hc
  have HN := Lib.hid hn
  have HZ0 := Lib.hid (zat_zero l)
  rw [hn] at HZ0
  clear hA bl hc hn
  go_enter Tryd.func9, Tryd.ntmps9
  go_upto_block 0 with (fail)
  go_cut [6] (fun v6 wc => v6 = .bool (zerosOf l) ∧ ∃ k, wc = w.drewN k)
  case first =>
    go_wp2_with fail
    go_loopw [6, 7] (fun v6 v7 u => ∃ (i : Nat) (b : Bool), v6 = .bool b ∧ v7 = .int .i64 (i : Int) ∧ i ≤ 512 ∧ Hid (zat l i b) ∧ ∃ k, u = w.drewN k) (fun _ i _ => 512 - (intOf i).toNat)
    case atStart => exact ⟨0, _, rfl, rfl, by decide, HZ0, 0, rfl⟩
    case round =>
      obtain ⟨i, b, rfl, rfl, hi, HZ, m, rfl⟩ := hrel
      by_cases c1 : i < 512
      · have d1 : decide ((i : Int) < 512) = true := decide_eq_true (by omega)
        cases b with
        | true =>
          have hl := (HZ.out.1 rfl).1
          obtain ⟨ad, rfl, hcell⟩ := HA.out (by omega)
          have c0 := hcell i (by omega)
          obtain ⟨x, hx⟩ : ∃ x, l.getD i 0 = x := ⟨_, rfl⟩
          rw [hx] at c0
          have HZ2 := Lib.hid (zat_step HZ.out hx)
          have d2 : (i : Int) < (n : Int) := by have := HN.out; omega
          clear hcell hl hx
          go_wp2_with fail
          exact ⟨⟨i + 1, _, rfl, by simp, by omega, HZ2, m, rfl⟩, by simp [intOf]; omega⟩
        | false =>
          have HF := Lib.hid (zat_out HZ.out hi)
          go_wp2_with fail
          go_meet
          case rel => exact ⟨by rw [HF.out], m, rfl⟩
      · have d1 : decide ((i : Int) < 512) = false := decide_eq_false (by omega)
        obtain rfl : i = 512 := by omega
        have HF := Lib.hid (zat_full HZ.out)
        go_wp2_with fail
        go_meet
        case rel => exact ⟨by rw [HF.out], m, rfl⟩
  case rest =>
    obtain ⟨rfl, m, rfl⟩ := hcut
    obtain ⟨z, hz⟩ : ∃ z, zerosOf l = z := ⟨_, rfl⟩
    rw [hz]
    have HZ := Lib.hid hz
    clear hz HZ0
    have H6 := Lib.hid (fmt_six l e)
    rw [HZ.out] at H6
    obtain ⟨b0, hb⟩ : ∃ b, pre [80, 75, 3, 4] l = b := ⟨_, rfl⟩
    rw [hb] at H6
    have HB0 := Lib.hid hb
    clear hb
    obtain ⟨b1, hb⟩ : ∃ b, pre [80, 75, 5, 6] l = b := ⟨_, rfl⟩
    rw [hb] at H6
    have HB1 := Lib.hid hb
    clear hb
    obtain ⟨b2, hb⟩ : ∃ b, pre [31, 139] l = b := ⟨_, rfl⟩
    rw [hb] at H6
    have HB2 := Lib.hid hb
    clear hb
    obtain ⟨b3, hb⟩ : ∃ b, pre [48, 55, 48, 55, 48, 49] l = b := ⟨_, rfl⟩
    rw [hb] at H6
    have HB3 := Lib.hid hb
    clear hb
    go_wp2_with fail
    refine (rb _ b0 _ HN.out rfl HC.out HA.out BL.out (by unfold Bytes; decide) HB0.out _).mono ?_
    rintro x w1 ⟨rfl, m1, rfl⟩
    cases b0 with
    | true =>
      go_wp2_with fail
      go_ret2
      exact ⟨by rw [H6.out]; rfl, _, rfl⟩
    | false =>
    go_wp2_with fail
    refine (rb _ b1 _ HN.out rfl HC.out HA.out BL.out (by unfold Bytes; decide) HB1.out _).mono ?_
    rintro x w2 ⟨rfl, m2, rfl⟩
    cases b1 with
    | true =>
      go_wp2_with fail
      go_ret2
      exact ⟨by rw [H6.out]; rfl, _, rfl⟩
    | false =>
    go_wp2_with fail
    refine (rb _ b2 _ HN.out rfl HC.out HA.out BL.out (by unfold Bytes; decide) HB2.out _).mono ?_
    rintro x w3 ⟨rfl, m3, rfl⟩
    cases b2 with
    | true =>
      go_wp2_with fail
      go_ret2
      exact ⟨by rw [H6.out]; rfl, _, rfl⟩
    | false =>
    go_wp2_with fail
    refine (rb _ b3 _ HN.out rfl HC.out HA.out BL.out (by unfold Bytes; decide) HB3.out _).mono ?_
    rintro x w4 ⟨rfl, m4, rfl⟩
    cases b3 with
    | true =>
      go_wp2_with fail
      go_ret2
      exact ⟨by rw [H6.out]; rfl, _, rfl⟩
    | false =>
    clear HB0 HB1 HB2 HB3
    go_upto_region 12 with (fail)
    go_cut [38] (fun v38 wc => v38 = .bool (ustar l || z) ∧ ∃ k, wc = w.drewN k)
    case first =>
      by_cases c1 : 263 ≤ n
      · have d1 : decide ((n : Int) ≥ 263) = true := decide_eq_true (by omega)
        have d1' : decide ((263 : Int) ≤ (n : Int)) = true := decide_eq_true (by omega)
        have hU := ustar_str (by rw [HN.out]; exact c1) BL.out
        obtain ⟨ad, rfl, _⟩ := HA.out (by have := HN.out; omega)
        have s1 := str_at 6 (c - 257) (RdK.take (RdK.drop (rd_only HA.out ((Only.refl (fun _ => False) w).drewN m4)) 257 (by decide)) 6) (by have := HN.out; simp; omega)
        have q1 : (263 : Int) ≤ (c : Int) := by have := HC.out; omega
        have q2 : ¬ c = 257 := by have := HC.out; omega
        obtain ⟨T, hT⟩ : ∃ T, strOfNums ((l.drop 257).take 6) = T := ⟨_, rfl⟩
        rw [hT] at s1 hU
        clear hT
        obtain ⟨u, hu⟩ : ∃ u, ustar l = u := ⟨_, rfl⟩
        rw [hu] at hU
        have HUu := Lib.hid hu
        clear hu
        cases u with
        | true =>
          go_wp2_with fail
          go_meet
          case rel => exact ⟨by rw [HUu.out]; rfl, _, rfl⟩
        | false =>
          go_wp2_with fail
          go_meet
          case rel => exact ⟨by rw [HUu.out]; rfl, _, rfl⟩
      · have d1 : decide ((n : Int) ≥ 263) = false := decide_eq_false (by omega)
        have d1' : decide ((263 : Int) ≤ (n : Int)) = false := decide_eq_false (by omega)
        have HUu := Lib.hid (show ustar l = false by unfold ustar; rw [decide_eq_false (by rw [HN.out]; omega)]; rfl)
        go_wp2_with fail
        go_meet
        case rel => exact ⟨by rw [HUu.out]; rfl, _, rfl⟩
    case rest =>
      obtain ⟨rfl, m5, rfl⟩ := hcut
      obtain ⟨t, ht⟩ : ∃ t, (ustar l || z) = t := ⟨_, rfl⟩
      rw [ht] at H6 ⊢
      clear ht
      cases t with
      | true =>
        go_wp2_with fail
        go_ret2
        exact ⟨by rw [H6.out]; rfl, _, rfl⟩
      | false =>
      by_cases c2 : e = false ∧ n < 512
      · obtain ⟨rfl, c2⟩ := c2
        have d2 : decide ((n : Int) < 512) = true := decide_eq_true (by omega)
        have H7 := Lib.hid (show fmtOf l false = (0, 5) by rw [H6.out, HN.out, decide_eq_true c2]; rfl)
        go_wp2_with fail
        go_ret2
        exact ⟨by rw [H7.out]; rfl, _, rfl⟩
      · have H7 := Lib.hid (show fmtOf l e = if zlibOf l then (5, 0) else (0, 2) by
          rw [H6.out, HN.out, show (!e && decide (n < 512)) = false by
            cases e with
            | true => rfl
            | false => exact decide_eq_false (fun h => c2 ⟨rfl, h⟩)]
          rfl)
        cases e with
        | true =>
          go_wp2_with fail
          refine (readz_any (c := c) HN.out (rd_only HA.out ((Only.refl (fun _ => False) w).drewN _)) BL.out).mono ?_
          rintro x w6 ⟨a, er, rfl, hr, m6, rfl⟩
          obtain ⟨q, hq⟩ : ∃ q, zlibOf l = q := ⟨_, rfl⟩
          rw [hq] at H7 hr
          clear hq
          cases q with
          | true =>
            go_wp2_with fail
            go_ret2
            exact ⟨by rw [H7.out]; rfl, _, rfl⟩
          | false =>
            go_wp2_with fail
            go_ret2
            exact ⟨by rw [H7.out]; rfl, _, rfl⟩
        | false =>
          have d2 : decide ((n : Int) < 512) = false := decide_eq_false (fun h => c2 ⟨rfl, by omega⟩)
          go_wp2_with fail
          refine (readz_any (c := c) HN.out (rd_only HA.out ((Only.refl (fun _ => False) w).drewN _)) BL.out).mono ?_
          rintro x w6 ⟨a, er, rfl, hr, m6, rfl⟩
          obtain ⟨q, hq⟩ : ∃ q, zlibOf l = q := ⟨_, rfl⟩
          rw [hq] at H7 hr
          clear hq
          cases q with
          | true =>
            go_wp2_with fail
            go_ret2
            exact ⟨by rw [H7.out]; rfl, _, rfl⟩
          | false =>
            go_wp2_with fail
            go_ret2
            exact ⟨by rw [H7.out]; rfl, _, rfl⟩
end Go.Proofs.YtgleehnmnmmdcaaDoor.Walks
