/- EntryMays. -/
import Derived.Test.YtihcdecdkpbpmaaDoorTold
import Derived.Test.YtihcdecdkpbpmaaDoorGrt
import Derived.Test.YtihcdecdkpbpmaaDoorOpenE
import Derived.Test.YtihcdecdkpbpmaaDoorLater
namespace Go.Proofs.YtihcdecdkpbpmaaDoor.Walks
open Go Go.RowKit Go.Proofs.YtihcdecdkpbpmaaDoor.Aid Go.Proofs.YtihcdecdkpbpmaaDoor.Pth Go.Proofs.YtihcdecdkpbpmaaDoor.Own Go.Proofs.YtihcdecdkpbpmaaDoorW.PrintWords

theorem sameLs_refl (l : List Ent) : sameLs l l = true := sameLs_all rfl (fun _ _ => sameL_refl _)
attribute [-go_sem] loadVar
attribute [local go_sem] lv9 lv3
set_option maxRecDepth 100000 in
set_option maxHeartbeats 4000000 in
theorem mays_law {w : World} {A A' : Option Addr} {l m : List Ent} {n c n' c' : Nat} {M M' : Nat → Option Addr × Nat} (T : ByteArray) (hn : l.length = n) (hl : n ≤ 9223372036854775807) (hc : n ≤ c) (hR : RdE w A l M) (hI : ∀ E ∈ l, EIn E)
    (hn' : m.length = n') (hl' : n' ≤ 9223372036854775807) (hR' : RdE w A' m M') (hI' : ∀ E ∈ m, EIn E) (hm : MaxLen w) :
    Calls Tryd.prog 7 #[.slice A n c, .slice A' n' c', .string T] w (BoolPost true w) := by
  have HN := Lib.hid hn
  have HN' := Lib.hid hn'
  have HR := Lib.hid hR
  have HR' := Lib.hid hR'
  have HM := Lib.hid hm
  have HG := Lib.hid (great_any (c := c) hn hl hR hI)
  have HG' := Lib.hid (great_any (c := c') hn' hl' hR' hI')
  obtain ⟨g, hg⟩ : ∃ g, greatL l = g := ⟨_, rfl⟩
  obtain ⟨g', hg'⟩ : ∃ g', greatL m = g' := ⟨_, rfl⟩
  obtain ⟨q, hq⟩ : ∃ q, decide ((T.size : Int) > 5000) = q := ⟨_, rfl⟩
  rw [hg] at HG
  rw [hg'] at HG'
  rcases wayT g (wayT g' (wayT q True.intro)) with rfl | ⟨rfl, rfl | ⟨rfl, rfl | ⟨rfl, _⟩⟩⟩
  iterate 3
    · clear hg hg' hl hR hI hn hm hc hn' hl' hR' hI'
      go_enter Tryd.func7, Tryd.ntmps7
      go_wp2_with (first
        | (go_at_call 8; (first
            | ((with_reducible refine HG.out.mono ?_); rintro x w1 ⟨rfl, hw⟩; obtain rfl := hw.symm)
            | ((with_reducible refine HG'.out.mono ?_); rintro x w1 ⟨rfl, hw⟩; obtain rfl := hw.symm)))
        | (go_at_call 9; refine (told20_any _ HM.out).mono ?_; rintro x w1 ⟨rfl, ho⟩; have HO := Lib.hid ho; clear ho))
      go_ret
      exact ⟨rfl, HO.out⟩
  obtain ⟨hl12, _⟩ := EOk.of_small hg
  obtain ⟨hl12', _⟩ := EOk.of_small hg'
  have HE := Lib.hid (small_ok hg hI)
  have HE' := Lib.hid (small_ok hg' hI')
  have b1 : n ≤ 12 := by omega
  have b2 : n' ≤ 12 := by omega
  have b3 : n ≤ c := hc
  clear hg hg' hl hR hI hn hm hc hn' hl' hR' hI' hl12 hl12'
  go_enter Tryd.func7, Tryd.ntmps7
  go_wp2_with (first
    | (go_at_call 8; (first
        | ((with_reducible refine HG.out.mono ?_); rintro x w1 ⟨rfl, hw⟩; obtain rfl := hw.symm)
        | ((with_reducible refine HG'.out.mono ?_); rintro x w1 ⟨rfl, hw⟩; obtain rfl := hw.symm))))
  go_loopw [7] (fun v7 u => ∃ i : Nat, v7 = .int .i64 (i : Int) ∧ i ≤ n ∧ Hid (Only (fun _ => False) w u)) (fun i _ => n - (intOf i).toNat)
  case atStart => exact ⟨0, rfl, by omega, Lib.hid (Only.refl _ _)⟩
  case round =>
    obtain ⟨i, rfl, hi, HU⟩ := hrel
    by_cases ci : i < n
    · have e1 : decide ((i : Int) < (n : Int)) = true := decide_eq_true (by omega)
      have e1' : decide (i < n) = true := decide_eq_true ci
      have e2 : (i : Int) < (n : Int) := by omega
      have hil : i < l.length := by rw [HN.out]; exact ci
      obtain ⟨ad, rfl, hat, hen⟩ := (HR.out.only HU.out).at hil
      have hEm : l.getD i e0 ∈ l := by rw [List.getD_eq_getElem?_getD, List.getElem?_eq_getElem hil]; exact List.getElem_mem hil
      have hEo := (HE.out _ hEm).1
      obtain ⟨E, hE⟩ : ∃ E, l.getD i e0 = E := ⟨_, rfl⟩
      obtain ⟨B1, hB1⟩ : ∃ B1, (M i).1 = B1 := ⟨_, rfl⟩
      obtain ⟨k1, hk1⟩ : ∃ k1, (M i).2 = k1 := ⟨_, rfl⟩
      rw [hE, hB1, hk1] at hat hen
      rw [hE] at hEo
      have HMy := Lib.hid (fun x : Later wr => may_any E B1 k1 x.w hEo (HM.out.only (HU.out.trans' x.h)))
      have HRy := Lib.hid (fun x : Later wr => rmay_any E B1 k1 x.w hEo)
      have HSm := Lib.hid (fun x : Later wr => show Calls Tryd.prog 14 #[eval E B1 k1, eval E B1 k1] x.w (fun e w' => e = .returned (.bool true) ∧ Only (fun _ => False) x.w w') by have := same_any (hen.only x.h) (hen.only x.h); rw [sameL_refl] at this; exact this)
      obtain ⟨my, hmy⟩ : ∃ my, mayL E = my := ⟨_, rfl⟩
      rw [hmy] at HMy HRy
      have hl1 : ∀ x : Later wr, (loadVar 32 (ad.add (i * 8))).run Tryd.prog x.w = .ok (eval E B1 k1) x.w := fun x => (hat.only x.h).load
      have n1 : (my != my) = false := by cases my <;> rfl
      by_cases cj : i < n'
      · have f1 : decide ((i : Int) < (n' : Int)) = true := decide_eq_true (by omega)
        have f1' : decide (i < n') = true := decide_eq_true cj
        have f2 : (i : Int) < (n' : Int) := by omega
        have hjl : i < m.length := by rw [HN'.out]; exact cj
        obtain ⟨ad', rfl, hat', hen'⟩ := (HR'.out.only HU.out).at hjl
        obtain ⟨F, hF⟩ : ∃ F, m.getD i e0 = F := ⟨_, rfl⟩
        obtain ⟨B2, hB2⟩ : ∃ B2, (M' i).1 = B2 := ⟨_, rfl⟩
        obtain ⟨k2, hk2⟩ : ∃ k2, (M' i).2 = k2 := ⟨_, rfl⟩
        rw [hF, hB2, hk2] at hat' hen'
        have HSf := Lib.hid (fun x : Later wr => same_any (hen.only x.h) (hen'.only x.h))
        have HRf := Lib.hid (fun x : Later wr => rsame_any (hen.only x.h) (hen'.only x.h))
        obtain ⟨ss, hss⟩ : ∃ ss, sameL E F = ss := ⟨_, rfl⟩
        rw [hss] at HSf HRf
        replace HSf := Lib.hid (fun x : Later wr => show Calls Tryd.prog 14 #[eval E B1 k1, eval F B2 k2] x.w (fun e w' => e = .returned (.bool ss) ∧ Only (fun _ => False) x.w w') from HSf.out x)
        have hl2 : ∀ x : Later wr, (loadVar 32 (ad'.add (i * 8))).run Tryd.prog x.w = .ok (eval F B2 k2) x.w := fun x => (hat'.only x.h).load
        have n2 : (ss != ss) = false := by cases ss <;> rfl
        clear hE hB1 hk1 hat hen hEm hEo hil hmy hF hB2 hk2 hat' hen' hjl hss
        go_upto_region 6 with (fail)
        refine wp_region_later (by kernel_rfl) (by kernel_rfl) ?_
        repeat (go_big_quiet_step ((first
          | (go_at_call 15; exact Calls.later (HMy.out _))
          | (go_at_call 22; exact Calls.later (HRy.out _))
          | (go_at_call 14; (with_reducible exact Calls.later (HSm.out _)))
          | (go_at_call 14; (with_reducible exact Calls.later (HSf.out _)))
          | (go_at_call 23; exact Calls.later (HRf.out _)))))
        refine wpQuiet_nil ?_
        rintro u ⟨x, hx⟩
        have hu := x.h
        rw [← hx] at hu
        clear hx
        replace HU := Lib.hid (HU.out.trans' hu)
        go_wp2_with fail
        exact ⟨⟨i + 1, by simp, by omega, HU⟩, by simp [intOf]; omega⟩
      · have f1 : decide ((i : Int) < (n' : Int)) = false := decide_eq_false (by omega)
        have f1' : decide (i < n') = false := decide_eq_false cj
        clear hE hB1 hk1 hat hen hEm hEo hil hmy
        go_upto_region 6 with (fail)
        refine wp_region_later (by kernel_rfl) (by kernel_rfl) ?_
        repeat (go_big_quiet_step ((first
          | (go_at_call 15; exact Calls.later (HMy.out _))
          | (go_at_call 22; exact Calls.later (HRy.out _))
          | (go_at_call 14; (with_reducible exact Calls.later (HSm.out _))))))
        refine wpQuiet_nil ?_
        rintro u ⟨x, hx⟩
        have hu := x.h
        rw [← hx] at hu
        clear hx
        replace HU := Lib.hid (HU.out.trans' hu)
        go_wp2_with fail
        exact ⟨⟨i + 1, by simp, by omega, HU⟩, by simp [intOf]; omega⟩
    · have e1 : decide ((i : Int) < (n : Int)) = false := decide_eq_false (by omega)
      have e1' : decide (i < n) = false := decide_eq_false ci
      obtain rfl : i = n := by omega
      have HT := Lib.hid (told20_any wr (HM.out.only HU.out))
      have HL := Lib.hid (fun u (h : Only (fun _ => False) wr u) => list_any (c := c) HN.out (show i ≤ 100000 by omega) (HR.out.only (HU.out.trans' h)) HE.out (HM.out.only (HU.out.trans' h)))
      have HRL := Lib.hid (fun u (h : Only (fun _ => False) wr u) => rlist_any (c := c) HN.out (show i ≤ 100000 by omega) b3 (HR.out.only (HU.out.trans' h)) HE.out)
      have HS := Lib.hid (fun u (h : Only (fun _ => False) wr u) => samelist_any (c := c) (c' := c') HN.out HN'.out (show i ≤ 9223372036854775807 by omega) (show n' ≤ 9223372036854775807 by omega) (HR.out.only (HU.out.trans' h)) (HR'.out.only (HU.out.trans' h)))
      have HRS := Lib.hid (fun u (h : Only (fun _ => False) wr u) => rsamelist_any (c := c) (c' := c') HN.out HN'.out (show i ≤ 100000 by omega) (show n' ≤ 9223372036854775807 by omega) (HR.out.only (HU.out.trans' h)) (HR'.out.only (HU.out.trans' h)))
      have HSS := Lib.hid (fun u (h : Only (fun _ => False) wr u) => samelist_any (c := c) (c' := c) HN.out HN.out (show i ≤ 9223372036854775807 by omega) (show i ≤ 9223372036854775807 by omega) (HR.out.only (HU.out.trans' h)) (HR.out.only (HU.out.trans' h)))
      have HF := Lib.hid (fun u (h : Only (fun _ => False) wr u) => find_any (c := c) T.data.toList HN.out (show i ≤ 100000 by omega) (HR.out.only (HU.out.trans' h)))
      have HRF := Lib.hid (fun u (h : Only (fun _ => False) wr u) => rfind_any (c := c) T.data.toList HN.out (show i ≤ 100000 by omega) (HR.out.only (HU.out.trans' h)))
      rw [sameLs_refl] at HSS
      rw [data_B] at HF HRF
      obtain ⟨lv, hlv⟩ : ∃ lv, listL l = lv := ⟨_, rfl⟩
      obtain ⟨sv, hsv⟩ : ∃ sv, sameLs l m = sv := ⟨_, rfl⟩
      obtain ⟨fv, hfv⟩ : ∃ fv, findL l T.data.toList = fv := ⟨_, rfl⟩
      rw [hlv] at HL HRL
      rw [hsv] at HS HRS
      rw [hfv] at HF HRF
      have n3 : (sv == sv) = true := by cases sv <;> rfl
      clear hlv hsv hfv HR HR' HE HE' HG HG' HN HN' HM
      go_wp2_with (first
        | (go_at_call 9; refine HT.out.mono ?_; rintro x w1 ⟨rfl, ho⟩; have HO1 := Lib.hid ho; clear ho)
        | (go_at_call 16; refine (HL.out _ HO1.out).mono ?_; rintro x w2 ⟨rfl, ho⟩; have HO2 := Lib.hid (HO1.out.trans' ho); clear ho)
        | (go_at_call 17; refine (HRL.out _ HO2.out).mono ?_; rintro x w3 ⟨rfl, ho⟩; have HO3 := Lib.hid (HO2.out.trans' ho); clear ho)
        | (go_at_call 24; refine (HRS.out _ HO4.out).mono ?_; rintro x w5 ⟨rfl, ho⟩; have HO5 := Lib.hid (HO4.out.trans' ho); clear ho)
        | (go_at_call 21; (first
            | ((with_reducible refine (HSS.out _ HO5.out).mono ?_); rintro x w6 ⟨rfl, ho⟩; have HO6 := Lib.hid (HO5.out.trans' ho); clear ho)
            | ((with_reducible refine (HS.out _ HO3.out).mono ?_); rintro x w4 ⟨rfl, ho⟩; have HO4 := Lib.hid (HO3.out.trans' ho); clear ho)))
        | (go_at_call 18; refine (HF.out _ HO6.out).mono ?_; rintro x w7 ⟨rfl, hw⟩; obtain rfl := hw.symm)
        | (go_at_call 25; refine (HRF.out _ HO6.out).mono ?_; rintro x w8 ⟨rfl, hw⟩; obtain rfl := hw.symm))
      go_ret
      exact ⟨rfl, HU.out.trans' HO6.out⟩
set_option maxRecDepth 100000 in
set_option maxHeartbeats 4000000 in
theorem lawMays {H : Type} {enc : TypeId × Value → H} {W : World} {base : Nat} {v0 v1 v2 : Value} {d0 d1 d2 : DataW H} {p0 p1 p2 : List MemPlace} {ts : List TypeId} {ds : List (DataW H)} (hm : MaxLen W)
    (ov0 : Value.okWide Tryd.prog W .any base 22 v0) (k0 : DataW.Trod enc Tryd.prog W 0 (fun _ => true) true 22 v0 d0 p0)
    (ov1 : Value.okWide Tryd.prog W .any base 22 v1) (k1 : DataW.Trod enc Tryd.prog W 0 (fun _ => true) true 22 v1 d1 p1)
    (ov2 : Value.okWide Tryd.prog W .any base 9 v2) (k2 : DataW.Trod enc Tryd.prog W 0 (fun _ => true) true 9 v2 d2 p2)
    (_ : (DataW.weightsEach Tryd.prog ts ds).all (· ≤ reachBytes) = true) :
    Calls Tryd.prog 7 #[v0, v1, v2] W fun e w' => e = .returned (.bool true) ∧ Below W.heap.size W w' := by
  obtain ⟨A, l, n, c, M, rfl, hn, hc, hl, hR, hI⟩ := open_ents ov0 k0
  obtain ⟨A', m, n', c', M', rfl, hn', hc', hl', hR', hI'⟩ := open_ents ov1 k1
  obtain ⟨S, rfl, _, _, _⟩ := Go.ChangeMaps.open_string Tryd.underlying9 ov2 k2
  exact (mays_law S hn hl hc hR hI hn' hl' hR' hI' hm).mono fun x w' h => ⟨h.1, h.2.none⟩
end Go.Proofs.YtihcdecdkpbpmaaDoor.Walks
