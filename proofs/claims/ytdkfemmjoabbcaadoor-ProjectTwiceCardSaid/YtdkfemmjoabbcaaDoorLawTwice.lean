/- ProjectTwice. -/
import Derived.Test.YtdkfemmjoabbcaaDoorTold
import Derived.Test.YtdkfemmjoabbcaaDoorOpenE
import Derived.Test.YtdkfemmjoabbcaaDoorPSam
namespace Go.Proofs.YtdkfemmjoabbcaaDoor.Walks
open Go Go.RowKit Go.Proofs.YtdkfemmjoabbcaaDoor.Aid Go.Proofs.YtdkfemmjoabbcaaDoor.Pth Go.Proofs.YtdkfemmjoabbcaaDoor.Own Go.Proofs.YtdkfemmjoabbcaaDoorW.PrintWords

set_option maxRecDepth 100000 in
set_option maxHeartbeats 4000000 in
theorem twice_law {w : World} {A : Option Addr} {l : List Ent} {n c : Nat} {M : Nat → Option Addr × Nat} (tf : Int) (hn : l.length = n) (hl : n ≤ 9223372036854775807) (hR : RdE w A l M) (hI : ∀ E ∈ l, EIn E) (hm : MaxLen w) :
    Calls Tryd.prog 7 #[.slice A n c, .int .i64 tf] w (BoolPost true w) := by
  have HN := Lib.hid hn
  have HR := Lib.hid hR
  have HM := Lib.hid hm
  have HG := Lib.hid (great_any (c := c) hn hl hR hI)
  obtain ⟨g, hg⟩ : ∃ g, greatL l = g := ⟨_, rfl⟩
  rw [hg] at HG
  cases g with
  | true =>
    clear hg hl hR hI hn hm
    go_enter Tryd.func7, Tryd.ntmps7
    go_wp2_with (first
      | (go_at_call 8; (with_reducible refine HG.out.mono ?_); rintro x w1 ⟨rfl, hw⟩; obtain rfl := hw.symm)
      | (go_at_call 9; refine (told_any _ HM.out).mono ?_; rintro x w1 ⟨rfl, ho⟩; have HO := Lib.hid ho; clear ho))
    go_ret
    exact ⟨rfl, HO.out⟩
  | false =>
    obtain ⟨hl12, _⟩ := EOk.of_small hg
    have HE := Lib.hid (small_ok hg hI)
    have b1 : n ≤ 12 := by omega
    obtain ⟨r, hr⟩ : ∃ r, (IntKind.u64.wrap tf).tmod 5 = r := ⟨_, rfl⟩
    have hr' := hr
    rw [u64_wrap, Int.tmod_eq_emod_of_nonneg (by omega)] at hr'
    have r0 : 0 ≤ r := by omega
    have r1 : r < 5 := by omega
    clear hr' hg hl hR hI hn hm hl12
    go_enter Tryd.func7, Tryd.ntmps7
    go_upto_region 4 with (first
      | (go_at_call 8; (with_reducible refine HG.out.mono ?_); rintro x w1 ⟨rfl, hw⟩; obtain rfl := hw.symm))
    have HFm := Lib.hid (show Fmt (1 + r) by unfold Fmt; omega)
    obtain ⟨F, hF⟩ : ∃ F, 1 + r = F := ⟨_, rfl⟩
    rw [hF] at HFm ⊢
    clear hF r0 r1 hr
    have HAl := Lib.hid (fun u (h : Only (fun _ => False) w u) => all_any (c := c) F HN.out (by omega) (HR.out.only h) HE.out (HM.out.only h))
    have HRp := Lib.hid (fun u (h : Only (fun _ => False) w u) => rep_any (c := c) F HN.out (by omega) (HR.out.only h) HE.out (HM.out.only h))
    have hml : (l.map (oneT · F)).length = n := by rw [List.length_map]; exact HN.out
    have HMl := Lib.hid hml
    have HTw := Lib.hid (map_twice l HFm.out)
    have HEm := Lib.hid (map_ok HFm.out HE.out)
    have HWell := Lib.hid (show ∀ i, i < n → WellT ((l.map (oneT · F)).getD i e0).time from fun i hi => by rw [getD_oneT (by rw [HN.out]; exact hi)]; exact oneT_well _ HFm.out)
    have HRm := Lib.hid (fun h : repL l F = -1 => rep_map HFm.out h)
    obtain ⟨P, hP⟩ : ∃ P, repL l F = P := ⟨_, rfl⟩
    obtain ⟨Q, hQ⟩ : ∃ Q, repL (l.map (oneT · F)) F = Q := ⟨_, rfl⟩
    rw [hP] at HRp HRm
    rw [hQ] at HRm
    have HQ := Lib.hid hQ
    obtain ⟨pl, hpl⟩ : ∃ pl, l.map (oneT · F) = pl := ⟨_, rfl⟩
    rw [hpl] at HAl HMl HTw HEm HWell HQ
    clear hP hQ hml hpl
    go_upto_region 5 with (go_at_call 16; refine (HAl.out _ (Only.refl _ _)).mono ?_; rintro x w3 ⟨A3, c3, M3, rfl, h3, hr3, ho3⟩; have HO3 := Lib.hid ho3; have HR3 := Lib.hid hr3; clear h3 hr3 ho3)
    rw [HMl.out]
    have HA2 := Lib.hid (fun u (h : Only (fun _ => False) w3 u) => all_any (c := c3) F HMl.out (by omega) (HR3.out.only h) HEm.out (HM.out.only (HO3.out.trans' h)))
    rw [HTw.out] at HA2
    have HR2 := Lib.hid (fun u (h : Only (fun _ => False) w3 u) => rep_any (c := c3) F HMl.out (by omega) (HR3.out.only h) HEm.out (HM.out.only (HO3.out.trans' h)))
    rw [HQ.out] at HR2
    have gP := dec_beq P (-1)
    have gQ := dec_bne Q (-1)
    obtain ⟨bp, hbp⟩ : ∃ b : Bool, decide (P = -1) = b := ⟨_, rfl⟩
    rw [hbp] at gP
    have HBp := Lib.hid hbp
    clear hbp
    cases bp
    all_goals
      try (have hq : Q = -1 := HRm.out (of_decide_eq_true HBp.out)
           have gQ2 : (Q != -1) = false := by rw [hq]; rfl
           clear hq)
      clear gQ
      go_upto_region 7 with (first
        | (go_at_call 16; refine (HA2.out _ (Only.refl _ _)).mono ?_; rintro x w4 ⟨A4, c4, M4, rfl, h4, hr4, ho4⟩; have HO4 := Lib.hid ho4; have HR4 := Lib.hid hr4; clear h4 hr4 ho4)
        | (go_at_call 15
           have q5 := rsamelist_any (c := c4) (c' := c3) HMl.out HMl.out (by omega) (by omega) HR4.out (HR3.out.only HO4.out)
           rw [sameLs_of (eqLs_refl pl)] at q5
           rw [HMl.out]
           (with_reducible refine q5.mono ?_)
           clear q5
           rintro x w5 ⟨rfl, ho5⟩
           have HO5 := Lib.hid (HO4.out.trans' ho5)
           clear ho5)
        | (go_at_call 12
           first
             | ((with_reducible refine (HRp.out _ (HO3.out.trans' HO5.out)).mono ?_); rintro x w6 ⟨rfl, ho6⟩; have HO6 := Lib.hid (HO5.out.trans' ho6); clear ho6)
             | ((with_reducible refine (HR2.out _ HO6.out).mono ?_); rintro x w7 ⟨rfl, ho7⟩; have HO7 := Lib.hid (HO6.out.trans' ho7); clear ho7)))
      first
        | (replace HO7 := Lib.hid HO7.out; clear HO6)
        | (have HO7 := Lib.hid HO6.out; clear HO6)
      clear HAl HRp HA2 HR2 HRm HTw HEm HQ HR4 HO4 HO5 gP HBp
      try clear gQ2
      go_upto_region 8 with (fail)
      go_loopw [7] (fun v7 u => ∃ i : Nat, v7 = .int .i64 (i : Int) ∧ i ≤ n ∧ Hid (Only (fun _ => False) w3 u)) (fun i _ => n - (intOf i).toNat)
      case atStart => exact ⟨0, rfl, by omega, HO7⟩
      case round =>
        clear HO7
        obtain ⟨i, rfl, hi, HU⟩ := hrel
        by_cases ci : i < n
        · have e1 : decide ((i : Int) < (n : Int)) = true := decide_eq_true (by omega)
          have e1' : decide (i < n) = true := decide_eq_true ci
          have e2 : (i : Int) < (n : Int) := by omega
          have hW := HWell.out i ci
          obtain ⟨ad, rfl, hat, _⟩ := (HR3.out.only HU.out).at (i := i) (by rw [HMl.out]; exact ci)
          have x5 : wr.cell? ⟨(ad.add (i * 8)).block, (ad.add (i * 8)).off + 5, none⟩ = some (.float .f64 (pl.getD i e0).time) := by have := hat 5 _ rfl; rwa [add_add, Aid.add_field _ _ _ (by decide)] at this
          obtain ⟨t, ht⟩ : ∃ t, (pl.getD i e0).time = t := ⟨_, rfl⟩
          rw [ht] at hW x5
          clear ht hat
          rcases hW with hN | ⟨hF, h0⟩
          · have g1 : (FloatKind.f64.format.order t t == some .eq) = false := by unfold isN at hN; rw [bne] at hN; simpa using hN
            clear hN
            go_wp2_with fail
            exact ⟨⟨i + 1, by simp, by omega, HU⟩, by simp [intOf]; omega⟩
          · have g1 : (FloatKind.f64.format.order t t == some .eq) = true := by rw [ord_eq (fnt_le hF) hF]; exact decide_eq_true rfl
            have hsub := run_float_arith (P := Tryd.prog) wr .sub 22 .f64 t t 0 (sub_self hF)
            have g2 := zero_zero
            have hz := sv_c c_zero (by decide)
            have g3 : (FloatKind.f64.format.order t 0 == some .eq) = decide (sv t = 0) := by rw [ord_eq (fnt_le hF) hz.2, hz.1, Int.zero_mul]
            by_cases c0 : sv t = 0
            · rw [decide_eq_true c0] at g3
              have e0 := h0 c0
              subst e0
              have hinv := run_float_arith (P := Tryd.prog) wr .quo 22 .f64 4607182418800017408 0 9218868437227405312 inv_zero
              have g4 := inf_pos
              clear h0 c0 hF hz
              go_wp2_with fail
              exact ⟨⟨i + 1, by simp, by omega, HU⟩, by simp [intOf]; omega⟩
            · rw [decide_eq_false c0] at g3
              clear h0 c0 hF hz
              go_wp2_with fail
              exact ⟨⟨i + 1, by simp, by omega, HU⟩, by simp [intOf]; omega⟩
        · have e1 : decide ((i : Int) < (n : Int)) = false := decide_eq_false (by omega)
          have e1' : decide (i < n) = false := decide_eq_false ci
          obtain rfl : i = n := by omega
          go_wp2_with (go_at_call 9; refine (told_any _ (HM.out.only (HO3.out.trans' HU.out))).mono ?_; rintro x w11 ⟨rfl, ho11⟩; have HV := Lib.hid (HU.out.trans' ho11); clear ho11)
          go_ret
          exact ⟨rfl, HO3.out.trans' HV.out⟩
theorem lawTwice {H : Type} {enc : TypeId × Value → H} {W : World} {base : Nat} {v0 v1 : Value} {d0 d1 : DataW H} {p0 p1 : List MemPlace} {ts : List TypeId} {ds : List (DataW H)} (hm : MaxLen W)
    (ov0 : Value.okWide Tryd.prog W .any base 27 v0) (k0 : DataW.Trod enc Tryd.prog W 0 (fun _ => true) true 27 v0 d0 p0)
    (ov1 : Value.okWide Tryd.prog W .any base 3 v1) (k1 : DataW.Trod enc Tryd.prog W 0 (fun _ => true) true 3 v1 d1 p1)
    (_ : (DataW.weightsEach Tryd.prog ts ds).all (· ≤ reachBytes) = true) :
    Calls Tryd.prog 7 #[v0, v1] W fun e w' => e = .returned (.bool true) ∧ Below W.heap.size W w' := by
  obtain ⟨A, l, n, c, M, rfl, hn, hc, hl, hR, hI⟩ := open_ents ov0 k0
  obtain ⟨n1, rfl, _, _, _⟩ := Go.ChangeShapes.open_int Tryd.underlying3 ov1 k1
  exact (twice_law n1 hn hl hR hI hm).mono fun x w' h => ⟨h.1, h.2.none⟩
end Go.Proofs.YtdkfemmjoabbcaaDoor.Walks
