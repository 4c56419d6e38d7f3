/- EntryTreeHas. -/
import Derived.Test.YtihcdecdkpbpmaaDoorTold
import Derived.Test.YtihcdecdkpbpmaaDoorGrt
import Derived.Test.YtihcdecdkpbpmaaDoorOpenE
import Derived.Test.YtihcdecdkpbpmaaDoorFnd
import Derived.Test.YtihcdecdkpbpmaaDoorCnw
import Derived.Test.YtihcdecdkpbpmaaDoorRPath
namespace Go.Proofs.YtihcdecdkpbpmaaDoor.Walks
open Go Go.RowKit Go.Proofs.YtihcdecdkpbpmaaDoor.Aid Go.Proofs.YtihcdecdkpbpmaaDoor.Pth Go.Proofs.YtihcdecdkpbpmaaDoor.Own Go.Proofs.YtihcdecdkpbpmaaDoor.OwnS Go.Proofs.YtihcdecdkpbpmaaDoorW.PrintWords

def lastB (l : List Ent) (i k : Nat) (s : Str) : Bool := !(((l.take k).drop (i + 1)).any (fun F => decide (F.path = s)))
theorem lastB_start (l : List Ent) (i : Nat) (s : Str) : lastB l i (i + 1) s = true := by
  unfold lastB
  rw [List.drop_eq_nil_of_le (by rw [List.length_take]; omega)]
  rfl
theorem lastB_step {l : List Ent} {i k : Nat} (s : Str) (h1 : i + 1 ≤ k) (h2 : k < l.length) : lastB l i (k + 1) s = (lastB l i k s && !decide ((l.getD k e0).path = s)) := by
  unfold lastB
  rw [List.take_add_one, List.getElem?_eq_getElem h2, List.drop_append_of_le_length (by rw [List.length_take]; omega), List.any_append, Bool.not_or, List.getD_eq_getElem?_getD, List.getElem?_eq_getElem h2]
  simp
theorem lastB_end {l : List Ent} {i : Nat} {s : Str} : lastB l i l.length s = true ↔ s ∉ (l.drop (i + 1)).map (·.path) := by
  unfold lastB
  rw [List.take_length, Bool.not_eq_true', List.any_eq_false, List.mem_map]
  constructor
  · rintro h ⟨F, hF, e⟩
    exact h F hF (decide_eq_true e)
  · intro h F hF e
    exact h ⟨F, hF, of_decide_eq_true e⟩
theorem want_step {l : List Ent} {i : Nat} (h : i < l.length) : wantL (l.drop i) = (if splitL (l.getD i e0).path ≠ [] ∧ (l.getD i e0).path ∉ (l.drop (i + 1)).map (·.path) then 1 else 0) + wantL (l.drop (i + 1)) := by
  rw [List.drop_eq_getElem_cons h, List.getD_eq_getElem?_getD, List.getElem?_eq_getElem h]
  rfl
theorem paths_get {l : List Ent} {i : Nat} (h : i < l.length) : (pathsL l)[i]? = some (splitL (l.getD i e0).path) := by
  unfold pathsL
  rw [List.getElem?_map, List.getD_eq_getElem?_getD, List.getElem?_eq_getElem h]
  rfl
theorem ent_is {l : List Ent} {i : Nat} (h : i < l.length) (h0 : splitL (l.getD i e0).path ≠ []) (hl : (l.getD i e0).path ∉ (l.drop (i + 1)).map (·.path)) : entN (pathsL l) (splitL (l.getD i e0).path) = i := by
  refine entN_last (paths_get h) fun k hk e => hl ?_
  have hkl : k < l.length := by have := (List.getElem?_eq_some_iff.1 e).1; unfold pathsL at this; rwa [List.length_map] at this
  rw [paths_get hkl] at e
  have e2 := splitL_inj (Option.some.inj e).symm h0
  refine List.mem_map.2 ⟨l.getD k e0, ?_, e2.symm⟩
  refine List.mem_of_getElem? (i := k - (i + 1)) ?_
  rw [List.getElem?_drop, show i + 1 + (k - (i + 1)) = k by omega, List.getElem?_eq_getElem hkl, List.getD_eq_getElem?_getD, List.getElem?_eq_getElem hkl]
  rfl
theorem small_pathsH {l : List Ent} (h : greatL l = false) : ∀ E ∈ l, E.path.length ≤ 5000 := fun E hE => ((EOk.of_small h).2 E hE).1
attribute [-go_sem] loadVar
attribute [local go_sem] lv9 lv3 lvN
set_option maxRecDepth 100000 in
set_option maxHeartbeats 4000000 in
theorem has_law {w : World} {A : Option Addr} {l : List Ent} {n c : Nat} {M : Nat → Option Addr × Nat} (hn : l.length = n) (hl : n ≤ 9223372036854775807) (hR : RdE w A l M) (hI : ∀ E ∈ l, EIn E) (hm : MaxLen w) :
    Calls Tryd.prog 3 #[.slice A n c] w (BoolPost true w) := by
  have HN := Lib.hid hn
  have HR := Lib.hid hR
  have HM := Lib.hid hm
  have HG := Lib.hid (great_any (c := c) hn hl hR hI)
  obtain ⟨g, hg⟩ : ∃ g, greatL l = g := ⟨_, rfl⟩
  rw [hg] at HG
  cases g with
  | true =>
    clear hg hl hR hI hn hm
    go_enter Tryd.func3, Tryd.ntmps3
    go_wp2_with (first
      | (go_at_call 8; (with_reducible refine HG.out.mono ?_); rintro x w1 ⟨rfl, hw⟩; obtain rfl := hw.symm)
      | (go_at_call 9; refine (told20_any _ HM.out).mono ?_; rintro x w1 ⟨rfl, ho⟩; have HO := Lib.hid ho; clear ho))
    go_ret
    exact ⟨rfl, HO.out⟩
  | false =>
  obtain ⟨hl12, _⟩ := EOk.of_small hg
  have HP := Lib.hid (small_pathsH hg)
  have h12 : (pathsL l).length ≤ 12 := by unfold pathsL; rw [List.length_map]; exact hl12
  have H12 := Lib.hid h12
  have hwl : wantL l ≤ 12 := by rw [want_cnt]; exact Nat.le_trans (cntF_le _ _) h12
  have HWl := Lib.hid (want_cnt l)
  obtain ⟨wl, hwe⟩ : ∃ wl, wantL l = wl := ⟨_, rfl⟩
  rw [hwe] at hwl HWl
  have HWe := Lib.hid hwe
  have b1 : n ≤ 12 := by omega
  have b2 : wl ≤ 12 := hwl
  clear hg hl hR hI hn hm hl12 h12 hwe hwl
  go_enter Tryd.func3, Tryd.ntmps3
  go_wp2_with (first
    | (go_at_call 8; (with_reducible refine HG.out.mono ?_); rintro x w1 ⟨rfl, hw⟩; obtain rfl := hw.symm)
    | (go_at_call 10; refine (tree_any HN.out b1 HR.out HP.out HM.out).mono ?_; rintro x w1 ⟨v1, rfl, ht1, ho1⟩; have HT1 := Lib.hid ht1; have HO1 := Lib.hid ho1; clear ht1 ho1))
  go_loopw [4, 5] (fun v4 v5 u => ∃ i wv : Nat, v5 = .int .i64 (i : Int) ∧ i ≤ n ∧ v4 = .int .i64 (wv : Int) ∧ Hid (wv + wantL (l.drop i) = wl) ∧ Hid (Only (fun _ => False) w1 u)) (fun _ i _ => n - (intOf i).toNat)
  case atStart => exact ⟨0, 0, rfl, by omega, rfl, Lib.hid (by rw [List.drop_zero, Nat.zero_add]; exact HWe.out), Lib.hid (Only.refl _ w1)⟩
  case round =>
    obtain ⟨i, wv, rfl, hi, rfl, HW, HU⟩ := hrel
    have bw : wv ≤ 12 := by have := HW.out; omega
    by_cases ci : i < n
    · have e1 : decide ((i : Int) < (n : Int)) = true := decide_eq_true (by omega)
      have e1' : decide (i < n) = true := decide_eq_true ci
      have e2 : (i : Int) < (n : Int) := by omega
      have hil : i < l.length := by rw [HN.out]; exact ci
      have HUw := Lib.hid (HO1.out.trans' HU.out)
      obtain ⟨ad, rfl, hat, hen⟩ := (HR.out.only HUw.out).at hil
      have hEm : l.getD i e0 ∈ l := by rw [List.getD_eq_getElem?_getD, List.getElem?_eq_getElem hil]; exact List.getElem_mem hil
      have x0 : wr.cell? (ad.add (i * 8)) = some (.string (B (l.getD i e0).path)) := by have := hat 0 _ rfl; rwa [show (ad.add (i * 8)).add 0 = ad.add (i * 8) from by rw [add_add]; rfl] at this
      have HEl := HP.out _ hEm
      have HSp := Lib.hid (fun u => rsplit_right (B (l.getD i e0).path) u (by rw [B_size]; omega))
      have HPn := Lib.hid (show (splitL (l.getD i e0).path).length ≤ 5001 by have := splitL_le (l.getD i e0).path; omega)
      have HWs := Lib.hid (want_step hil)
      have HEi := Lib.hid (ent_is hil)
      have HPg := Lib.hid (List.mem_of_getElem? (paths_get hil))
      have HLs := Lib.hid (fun k => lastB_step (l := l) (i := i) (k := k) (l.getD i e0).path)
      have HLz := Lib.hid (lastB_end (l := l) (i := i) (s := (l.getD i e0).path))
      have HL0 := Lib.hid (lastB_start l i (l.getD i e0).path)
      rw [B_data] at HSp
      obtain ⟨s, hs⟩ : ∃ s, (l.getD i e0).path = s := ⟨_, rfl⟩
      rw [hs] at x0 HSp HPn HWs HEi HPg HLs HLz HL0
      obtain ⟨p, hp⟩ : ∃ p, splitL s = p := ⟨_, rfl⟩
      rw [hp] at HSp HPn HWs HEi HPg
      obtain ⟨S, hS⟩ : ∃ S, B s = S := ⟨_, rfl⟩
      have HBs := Lib.hid hS
      rw [hS] at x0 HSp
      have HX0 := Lib.hid x0
      clear hS hp hs hat hen hEm hil HEl
      go_upto_region 9 with (go_at_call 11; refine (HSp.out _).mono ?_; rintro x w4 ⟨A4, c4, rfl, hc4, hr4, ho4⟩; have HR4 := Lib.hid hr4; have HC4 := Lib.hid hc4; have HU4 := Lib.hid (HU.out.trans' ho4); have HX4 := Lib.hid (ho4.cell x0 id); clear hr4 ho4 hc4)
      clear x0 HSp HU
      by_cases c1 : p.length = 0
      · have g1 : ((p.length : Int) == 0) = true := by rw [c1]; rfl
        have hp0 : p = [] := List.eq_nil_of_length_eq_zero c1
        have HWn := Lib.hid (show wv + wantL (l.drop (i + 1)) = wl by have h1 := HW.out; rw [HWs.out, if_neg (fun h => h.1 hp0)] at h1; omega)
        clear hp0 c1
        go_wp2_with fail
        exact ⟨⟨i + 1, wv, by simp, by omega, rfl, HWn, HU4⟩, by simp [intOf]; omega⟩
      have g1 : ((p.length : Int) == 0) = false := by rw [beq_eq_false_iff_ne]; omega
      have HPne := Lib.hid (show p ≠ [] from fun e => c1 (by rw [e]; rfl))
      clear c1
      go_wp2_with fail
      go_loopw [7, 8] (fun v7 v8 u => ∃ (k : Nat) (b : Bool), v8 = .int .i64 (k : Int) ∧ i + 1 ≤ k ∧ k ≤ n ∧ v7 = .bool b ∧ Hid (lastB l i k s = b) ∧ Hid (Only (fun _ => False) w4 u)) (fun _ k _ => n - (intOf k).toNat)
      case atStart => exact ⟨i + 1, true, by simp, by omega, by omega, rfl, HL0, Lib.hid (Only.refl _ w4)⟩
      case round =>
        obtain ⟨k, b, rfl, hik, hk, rfl, HB, HX⟩ := hrel
        by_cases ck : k < n
        · have f1 : decide ((k : Int) < (n : Int)) = true := decide_eq_true (by omega)
          have f1' : decide (k < n) = true := decide_eq_true ck
          have f2 : (k : Int) < (n : Int) := by omega
          have hkl : k < l.length := by rw [HN.out]; exact ck
          have HLk := Lib.hid (HLs.out k hik hkl)
          cases b with
          | false =>
            have HLn := Lib.hid (show lastB l i (k + 1) s = false by rw [HLk.out, HB.out]; rfl)
            clear hkl HLk
            go_upto_region 14 with (fail)
            go_quiet (fail)
            go_wp2_with fail
            exact ⟨⟨k + 1, false, by simp, by omega, by omega, rfl, HLn, Lib.hid (HX.out.drewN _)⟩, by simp [intOf]; omega⟩
          | true =>
            obtain ⟨ad', e', hat', _⟩ := (HR.out.only (HO1.out.trans' (HU4.out.trans' HX.out))).at hkl
            injection e' with e'
            subst e'
            have y0 : wr.cell? (ad.add (k * 8)) = some (.string (B (l.getD k e0).path)) := by have := hat' 0 _ rfl; rwa [show (ad.add (k * 8)).add 0 = ad.add (k * 8) from by rw [add_add]; rfl] at this
            have z0 : wr.cell? (ad.add (i * 8)) = some (.string S) := HX.out.cell HX4.out id
            have q0 : ((B (l.getD k e0).path).toList == S.toList) = decide ((l.getD k e0).path = s) := by rw [← HBs.out]; exact str_eqB _ _
            obtain ⟨bb, hbb⟩ : ∃ bb, decide ((l.getD k e0).path = s) = bb := ⟨_, rfl⟩
            obtain ⟨S2, hS2⟩ : ∃ S2, B (l.getD k e0).path = S2 := ⟨_, rfl⟩
            rw [hbb, hS2] at q0
            rw [hS2] at y0
            have HLn := Lib.hid (show lastB l i (k + 1) s = !bb by rw [HLk.out, HB.out, hbb]; rfl)
            clear hkl HLk hbb hS2 hat'
            go_upto_region 14 with (fail)
            go_quiet (fail)
            go_wp2_with fail
            exact ⟨⟨k + 1, !bb, by simp, by omega, by omega, rfl, HLn, Lib.hid (HX.out.drewN _)⟩, by simp [intOf]; omega⟩
        · have f1 : decide ((k : Int) < (n : Int)) = false := decide_eq_false (by omega)
          have f1' : decide (k < n) = false := decide_eq_false ck
          obtain rfl : n = k := by omega
          have HBl := Lib.hid (show lastB l i l.length s = b by rw [HN.out]; exact HB.out)
          have HU5 := Lib.hid (HU4.out.trans' HX.out)
          cases b with
          | false =>
            have HWn := Lib.hid (show wv + wantL (l.drop (i + 1)) = wl by have h1 := HW.out; rw [HWs.out, if_neg (fun h => by have := HLz.out.2 h.2; rw [HBl.out] at this; cases this)] at h1; omega)
            go_wp2_with fail
            exact ⟨⟨i + 1, wv, by simp, by omega, rfl, HWn, HU5⟩, by simp [intOf]; omega⟩
          | true =>
            have hlast := HLz.out.1 HBl.out
            have HWn := Lib.hid (show wv + 1 + wantL (l.drop (i + 1)) = wl by have h1 := HW.out; rw [HWs.out, if_pos ⟨HPne.out, hlast⟩] at h1; omega)
            have hent := HEi.out HPne.out hlast
            have HF := Lib.hid (fnd_any H12.out 6001 [] p wr v1 A4 p.length c4 HPne.out (HT1.out.only HU5.out (fun _ _ _ => id)) (HR4.out.only HX.out) rfl HC4.out (by rw [List.nil_append]; exact HPg.out))
            rw [List.nil_append, hent] at HF
            have q1 : ((i : Int) != (i : Int)) = false := by simp
            clear hent hlast
            go_wp2_with (go_at_call 12; refine HF.out.mono ?_; rintro x w6 ⟨rfl, ho6⟩; have HU6 := Lib.hid (HU5.out.trans' ho6); clear ho6)
            exact ⟨⟨i + 1, wv + 1, by simp, by omega, by simp, HWn, HU6⟩, by simp [intOf]; omega⟩
    · have e1 : decide ((i : Int) < (n : Int)) = false := decide_eq_false (by omega)
      have e1' : decide (i < n) = false := decide_eq_false ci
      have hw0 : wv = wl := by
        have h1 := HW.out
        rw [List.drop_eq_nil_of_le (by rw [HN.out]; omega)] at h1
        exact h1
      subst hw0
      have HC := Lib.hid (fun u (h : Only (fun _ => False) w1 u) => cnt_any H12.out 6001 [] u v1 (HT1.out.only h (fun _ _ _ => id)))
      rw [← HWl.out] at HC
      have q1 : ((wv : Int) == (wv : Int)) = true := by simp
      go_wp2_with (first
        | (go_at_call 9; refine (told20_any _ (HM.out.only (HO1.out.trans' HU.out))).mono ?_; rintro x w2 ⟨rfl, ho⟩; have HO2 := Lib.hid (HU.out.trans' ho); clear ho)
        | (go_at_call 13; refine (HC.out _ HO2.out).mono ?_; rintro x w3 ⟨rfl, ho⟩; have HO3 := Lib.hid (HO1.out.trans' (HO2.out.trans' ho)); clear ho))
      go_ret
      exact ⟨rfl, HO3.out⟩
set_option maxRecDepth 100000 in
set_option maxHeartbeats 4000000 in
theorem lawHas {H : Type} {enc : TypeId × Value → H} {W : World} {base : Nat} {v0 : Value} {d0 : DataW H} {p0 : List MemPlace} {ts : List TypeId} {ds : List (DataW H)} (hm : MaxLen W)
    (ov0 : Value.okWide Tryd.prog W .any base 22 v0) (k0 : DataW.Trod enc Tryd.prog W 0 (fun _ => true) true 22 v0 d0 p0)
    (_ : (DataW.weightsEach Tryd.prog ts ds).all (· ≤ reachBytes) = true) :
    Calls Tryd.prog 3 #[v0] W fun e w' => e = .returned (.bool true) ∧ Below W.heap.size W w' := by
  obtain ⟨A, l, n, c, M, rfl, hn, _, hl, hR, hI⟩ := open_ents ov0 k0
  exact (has_law hn hl hR hI hm).mono fun x w' h => ⟨h.1, h.2.none⟩
end Go.Proofs.YtihcdecdkpbpmaaDoor.Walks
