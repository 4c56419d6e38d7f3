/- ProjectAll. -/
import Derived.Test.YtdkfemmjoabbcaaDoorROne
import Derived.Test.YtdkfemmjoabbcaaDoorAppE
import Derived.Test.YtdkfemmjoabbcaaDoorTold
import Derived.Test.YtdkfemmjoabbcaaDoorOpenE
namespace Go.Proofs.YtdkfemmjoabbcaaDoor.Walks
open Go Go.RowKit Go.Proofs.YtdkfemmjoabbcaaDoor.Aid Go.Proofs.YtdkfemmjoabbcaaDoor.Pth Go.Proofs.YtdkfemmjoabbcaaDoor.Own Go.Proofs.YtdkfemmjoabbcaaDoorW.PrintWords

theorem tSame_self (a : Nat) : tSame a a = true := by
  unfold tSame
  cases h : isN a
  · have : (FloatKind.f64.format.order a a == some .eq) = true := by
      unfold isN at h; rw [bne, Bool.not_eq_false'] at h; exact h
    rw [this]; rfl
  · rw [Bool.true_and, Bool.or_true]
theorem tSame_of {a b : Nat} (h : TEq b a) : tSame a b = true := by
  rcases h with h | ⟨h1, h2⟩
  · rw [h]; exact tSame_self a
  · unfold tSame; rw [h1, h2]; simp
theorem sameL_of {E F : Ent} (h : EqT F E) : sameL E F = true := by
  unfold sameL
  rw [h.path, h.kind, h.mode, h.uid, h.gid, h.target, h.data, tSame_of h.time]
  simp
theorem EqT.rfl' (E : Ent) : EqT E E := ⟨rfl, rfl, rfl, rfl, rfl, TEq.rfl' _, rfl, rfl⟩
theorem sameLs_of {l m : List Ent} (h : EqLs m l) : sameLs l m = true := sameLs_all h.1.symm (fun i hi => sameL_of (h.2 i (by rw [h.1]; exact hi)))
theorem eqLs_refl (l : List Ent) : EqLs l l := ⟨rfl, fun _ _ => EqT.rfl' _⟩
theorem EntAt.like {w : World} {E F : Ent} {A : Option Addr} {c : Nat} (h : EntAt w E A c) (e : F.data = E.data) : EntAt w F A c := ⟨by rw [e]; exact h.1, by rw [e]; exact h.2⟩
attribute [-go_sem] loadVar
set_option maxRecDepth 100000 in
set_option maxHeartbeats 4000000 in
theorem all_law {w : World} {A : Option Addr} {l : List Ent} {n c : Nat} {M : Nat → Option Addr × Nat} (tf : Int) (near : Bool) (hn : l.length = n) (hl : n ≤ 9223372036854775807) (hc : n ≤ c) (hR : RdE w A l M) (hI : ∀ E ∈ l, EIn E) (hm : MaxLen w) :
    Calls Tryd.prog 6 #[.slice A n c, .int .i64 tf, .bool near] w (BoolPost true w) := by
  have HN := Lib.hid hn
  have HR := Lib.hid hR
  have HM := Lib.hid hm
  have HG := Lib.hid (great_any (c := c) hn hl hR hI)
  obtain ⟨g, hg⟩ : ∃ g, greatL l = g := ⟨_, rfl⟩
  rw [hg] at HG
  cases g with
  | true =>
    clear hg hl hR hI hn hm hc
    go_enter Tryd.func6, Tryd.ntmps6
    go_wp2_with (first
      | (go_at_call 8; (with_reducible refine HG.out.mono ?_); rintro x w1 ⟨rfl, hw⟩; obtain rfl := hw.symm)
      | (go_at_call 9; refine (told_any _ HM.out).mono ?_; rintro x w1 ⟨rfl, ho⟩; have HO := Lib.hid ho; clear ho))
    go_ret
    exact ⟨rfl, HO.out⟩
  | false =>
    obtain ⟨hl12, _⟩ := EOk.of_small hg
    have HE := Lib.hid (small_ok hg hI)
    have b1 : n ≤ 12 := by omega
    have b2 : n ≤ c := hc
    clear hg hl hR hI hn hm hc hl12
    obtain ⟨r, hr⟩ : ∃ r, (IntKind.u64.wrap tf).tmod 5 = r := ⟨_, rfl⟩
    have hr' := hr
    rw [u64_wrap, Int.tmod_eq_emod_of_nonneg (by omega)] at hr'
    have r0 : 0 ≤ r := by omega
    have r1 : r < 5 := by omega
    clear hr'
    cases near
    all_goals
      go_enter Tryd.func6, Tryd.ntmps6
      go_upto_region 6 with (first
        | (go_at_call 8; (with_reducible refine HG.out.mono ?_); rintro x w1 ⟨rfl, hw⟩; obtain rfl := hw.symm)
        | ((with_reducible refine gate 20 rfl ?_)
           refine copyE rfl _ _ rfl w.heap.size rfl rfl HN.out (HR.out.only ((Only.refl (fun _ => False) w).alloc (.cells #[] 25))) (by omega) ?_
           intro A1 c1 w2 hc1 hr2 ho2
           have HR2 := Lib.hid hr2
           have HC1 := Lib.hid hc1
           have HO2 := Lib.hid (((Only.refl (fun _ => False) w).alloc (.cells #[] 25)).trans' ho2)
           clear hc1 hr2 ho2))
      first
        | (obtain ⟨F, hF⟩ : ∃ F, 1 + r = F := ⟨_, rfl⟩
           rw [hF]
           clear hF r0 r1 hr)
        | (obtain ⟨F, hF⟩ : ∃ F, tf = F := ⟨_, rfl⟩
           rw [hF]
           clear hF r0 r1 hr)
      have HAl := Lib.hid (fun u (h : Only (fun _ => False) w2 u) => all_any (c := c) F HN.out (by omega) (HR.out.only (HO2.out.trans' h)) HE.out (HM.out.only (HO2.out.trans' h)))
      have HRa := Lib.hid (fun u (h : Only (fun _ => False) w2 u) => rall_any (c := c) F HN.out (by omega) (HR.out.only (HO2.out.trans' h)) HE.out)
      have HRp := Lib.hid (fun u (h : Only (fun _ => False) w2 u) => rep_any (c := c) F HN.out (by omega) (HR.out.only (HO2.out.trans' h)) HE.out (HM.out.only (HO2.out.trans' h)))
      have HRr := Lib.hid (fun u (h : Only (fun _ => False) w2 u) => rrep_any (c := c) F HN.out (by omega) b2 (HR.out.only (HO2.out.trans' h)) HE.out)
      have hml : (l.map (oneT · F)).length = n := by rw [List.length_map]; exact HN.out
      have HMl := Lib.hid hml
      obtain ⟨P, hP⟩ : ∃ P, repL l F = P := ⟨_, rfl⟩
      rw [hP] at HRp HRr
      have gP : (P != P) = false := by simp
      obtain ⟨pl, hpl⟩ : ∃ pl, l.map (oneT · F) = pl := ⟨_, rfl⟩
      rw [hpl] at HAl HRa HMl
      clear hP hml hpl
      go_wp2_with (first
        | (go_at_call 16; refine (HAl.out _ (Only.refl _ _)).mono ?_; rintro x w3 ⟨A3, c3, M3, rfl, h3, hr3, ho3⟩; have HO3 := Lib.hid ho3; have HR3 := Lib.hid hr3; clear h3 hr3 ho3)
        | (go_at_call 17; refine (HRa.out _ HO3.out).mono ?_; rintro x w4 ⟨m4, A4, c4, M4, rfl, h4, hr4, hq4, ho4⟩; have HO4 := Lib.hid (HO3.out.trans' ho4); have HR4 := Lib.hid hr4; have HR3' := Lib.hid (HR3.out.only ho4); have HQ4 := Lib.hid hq4; clear h4 hr4 hq4 ho4))
      have q5 := rsamelist_any (c := c3) (c' := c4) rfl rfl (by rw [HMl.out]; omega) (by rw [HQ4.out.1, HMl.out]; omega) HR3'.out HR4.out
      (with_reducible refine q5.mono ?_)
      clear q5
      rintro x w5 ⟨rfl, ho5⟩
      rw [sameLs_of HQ4.out]
      have HO5 := Lib.hid (HO4.out.trans' ho5)
      clear ho5 HR3 HR4 HR3' HQ4 HO3 HO4 HMl
      go_wp2_with (first
        | (go_at_call 12; refine (HRp.out _ HO5.out).mono ?_; rintro x w6 ⟨rfl, ho6⟩; have HO6 := Lib.hid (HO5.out.trans' ho6); clear ho6)
        | (go_at_call 18; refine (HRr.out _ HO6.out).mono ?_; rintro x w7 ⟨rfl, ho7⟩; have HO7 := Lib.hid (HO6.out.trans' ho7); clear ho7))
      clear HAl HRa HRp HRr HO5 HO6
      go_loopw [8] (fun v8 u => ∃ i : Nat, v8 = .int .i64 (i : Int) ∧ i ≤ n ∧ Hid (Only (fun _ => False) w2 u)) (fun i _ => n - (intOf i).toNat)
      case atStart => exact ⟨0, rfl, by omega, HO7⟩
      case round =>
        clear HO7
        obtain ⟨i, rfl, hi, HU⟩ := hrel
        by_cases ci : i < n
        · have e1 : decide ((i : Int) < (n : Int)) = true := decide_eq_true (by omega)
          have e1' : decide (i < n) = true := decide_eq_true ci
          have e2 : (i : Int) < (n : Int) := by omega
          have hil : i < l.length := by rw [HN.out]; exact ci
          obtain ⟨ad, rfl, hat, hen⟩ := (HR.out.only (HO2.out.trans' HU.out)).at hil
          have hEm : l.getD i e0 ∈ l := by rw [List.getD_eq_getElem?_getD, List.getElem?_eq_getElem hil]; exact List.getElem_mem hil
          have hEo := (HE.out _ hEm).1
          obtain ⟨E, hE⟩ : ∃ E, l.getD i e0 = E := ⟨_, rfl⟩
          obtain ⟨B1, hB1⟩ : ∃ B1, (M i).1 = B1 := ⟨_, rfl⟩
          obtain ⟨k1, hk1⟩ : ∃ k1, (M i).2 = k1 := ⟨_, rfl⟩
          rw [hE, hB1, hk1] at hat hen
          rw [hE] at hEo
          have HP1 := Lib.hid (fun u (h : Only (fun _ => False) wr u) => onep_any E B1 k1 F u hEo (HM.out.only ((HO2.out.trans' HU.out).trans' h)) (hen.only h))
          have HP2 := Lib.hid (fun u => rone_any E B1 k1 F u hEo)
          have HEn := Lib.hid (fun u (h : Only (fun _ => False) wr u) (G : Ent) (e : EqT G (oneT E F)) => show EntAt u G B1 k1 from (hen.only h).like (e.data.trans (oneT_data E F)))
          have hl1 : ∀ u, Only (fun _ => False) wr u → (loadVar 25 (ad.add (i * 8))).run Tryd.prog u = .ok (eval E B1 k1) u := fun u h => (hat.only h).load
          clear hE hB1 hk1 hat hen hEm hEo hil
          go_upto_region 11 with (fail)
          go_region_held3 (fun u => Only (fun _ => False) wr u) (first | exact (Only.refl _ _).drew | exact Only.trans' (show Only _ wr _ by assumption) (by assumption)) (first
            | (fail)
            | (go_at_call 10; refine (HP1.out _ (by assumption)).mono ?_; rintro x w8 ⟨A8, k8, rfl, hE8, ho8, hn8⟩)
            | (go_at_call 19; refine (HP2.out _).mono ?_; rintro x w9 ⟨G, rfl, hG, ho9⟩; have hE8' := hE8.only ho9)
            | (go_at_call 14; refine (rsame_any hE8' (HEn.out _ (by assumption) G hG)).mono ?_; rintro x w10 ⟨rfl, ho10⟩; rw [sameL_of hG]))
          replace HU := Lib.hid (HU.out.trans' (show Only (fun _ => False) wr w10 by assumption))
          clear hl1 hE8 hE8' hG hn8
          go_wp2_with fail
          exact ⟨⟨i + 1, by simp, by omega, HU⟩, by simp [intOf]; omega⟩
        · have e1 : decide ((i : Int) < (n : Int)) = false := decide_eq_false (by omega)
          have e1' : decide (i < n) = false := decide_eq_false ci
          obtain rfl : i = n := by omega
          have HL := Lib.hid (fun u (h : Only (fun _ => False) w2 u) => rsamelist_any (c := c) (c' := c1) HN.out HN.out (by omega) (by omega) (HR.out.only (HO2.out.trans' h)) (HR2.out.only h))
          rw [sameLs_of (eqLs_refl l)] at HL
          go_wp2_with (first
            | (go_at_call 9; refine (told_any _ (HM.out.only (HO2.out.trans' HU.out))).mono ?_; rintro x w11 ⟨rfl, ho11⟩; have HV := Lib.hid (HU.out.trans' ho11); clear ho11)
            | (go_at_call 15; refine (HL.out _ HV.out).mono ?_; rintro x w12 ⟨rfl, ho12⟩; have HZ := Lib.hid (HV.out.trans' ho12); clear ho12))
          go_ret
          exact ⟨rfl, HO2.out.trans' HZ.out⟩
theorem lawAll {H : Type} {enc : TypeId × Value → H} {W : World} {base : Nat} {v0 v1 v2 : Value} {d0 d1 d2 : DataW H} {p0 p1 p2 : List MemPlace} {ts : List TypeId} {ds : List (DataW H)} (hm : MaxLen W)
    (ov0 : Value.okWide Tryd.prog W .any base 27 v0) (k0 : DataW.Trod enc Tryd.prog W 0 (fun _ => true) true 27 v0 d0 p0)
    (ov1 : Value.okWide Tryd.prog W .any base 3 v1) (k1 : DataW.Trod enc Tryd.prog W 0 (fun _ => true) true 3 v1 d1 p1)
    (ov2 : Value.okWide Tryd.prog W .any base 4 v2) (k2 : DataW.Trod enc Tryd.prog W 0 (fun _ => true) true 4 v2 d2 p2)
    (_ : (DataW.weightsEach Tryd.prog ts ds).all (· ≤ reachBytes) = true) :
    Calls Tryd.prog 6 #[v0, v1, v2] W fun e w' => e = .returned (.bool true) ∧ Below W.heap.size W w' := by
  obtain ⟨A, l, n, c, M, rfl, hn, hc, hl, hR, hI⟩ := open_ents ov0 k0
  obtain ⟨n1, rfl, _, _, _⟩ := Go.ChangeShapes.open_int Tryd.underlying3 ov1 k1
  obtain ⟨b, rfl, _, _⟩ := Go.RowKit.open_bool Tryd.underlying4 ov2 k2
  exact (all_law n1 b hn hl hc hR hI hm).mono fun x w' h => ⟨h.1, h.2.none⟩
end Go.Proofs.YtdkfemmjoabbcaaDoor.Walks
