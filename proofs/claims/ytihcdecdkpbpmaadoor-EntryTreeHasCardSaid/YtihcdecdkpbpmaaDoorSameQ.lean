/- Contracts of slices.EqualFunc at entries, entry.SameList, entry.Find. -/
import Derived.Test.YtihcdecdkpbpmaaDoorSameP
import Derived.Test.YtihcdecdkpbpmaaDoorRMay
namespace Go.Proofs.YtihcdecdkpbpmaaDoor.Walks
open Go Go.RowKit Go.Proofs.YtihcdecdkpbpmaaDoor.Aid Go.Proofs.YtihcdecdkpbpmaaDoor.Pth Go.Proofs.YtihcdecdkpbpmaaDoor.Own Go.Proofs.YtihcdecdkpbpmaaDoorW.PrintWords

set_option maxRecDepth 100000 in
set_option maxHeartbeats 4000000 in
theorem equal_any {w : World} {A A' : Option Addr} {l l' : List Ent} {n c n' c' : Nat} {M M' : Nat → Option Addr × Nat} (hn : l.length = n) (hn' : l'.length = n') (hl : n ≤ 9223372036854775807) (hl' : n' ≤ 9223372036854775807) (hR : RdE w A l M) (hR' : RdE w A' l' M') :
    Calls Tryd.prog 38 #[.slice A n c, .slice A' n' c', .func (.func 14) #[] #[]] w (BoolPost (sameLs l l') w) := by
  by_cases q : n = n'
  · subst q
    have d1 : ((n : Int) != (n : Int)) = false := by simp
    have d1' : (n != n) = false := by simp
    have HN := Lib.hid hn
    have HN' := Lib.hid hn'
    have HR := Lib.hid hR
    have HR' := Lib.hid hR'
    clear hn hn' hR hR'
    go_enter Tryd.func38, Tryd.ntmps38
    go_wp2_with fail
    go_loopw [17] (fun v17 u => ∃ i : Nat, v17 = .int .i64 (i : Int) ∧ i ≤ n ∧ Hid (Only (fun _ => False) w u) ∧ Hid (∀ j, j < i → sameL (l.getD j e0) (l'.getD j e0) = true)) (fun i _ => n - (intOf i).toNat)
    case atStart => exact ⟨0, rfl, by omega, Lib.hid (Only.refl _ _), Lib.hid (fun j h => absurd h (by omega))⟩
    case round =>
      obtain ⟨i, rfl, hi, HU, HAll⟩ := hrel
      by_cases ci : i < n
      · have e1 : decide ((i : Int) < (n : Int)) = true := decide_eq_true (by omega)
        have e1' : decide (i < n) = true := decide_eq_true ci
        have e2 : (i : Int) < (n : Int) := by omega
        have hil : i < l.length := by rw [HN.out]; exact ci
        have hil' : i < l'.length := by rw [HN'.out]; exact ci
        obtain ⟨ad, rfl, hat, hen⟩ := (HR.out.only HU.out).at hil
        obtain ⟨ad', rfl, hat', hen'⟩ := (HR'.out.only HU.out).at hil'
        have HS := Lib.hid (fun u (h : Only (fun _ => False) wr u) => same_any (hen.only h) (hen'.only h))
        have HGo := Lib.hid (fun (h : sameL (l.getD i e0) (l'.getD i e0) = true) (j : Nat) (hj : j < i + 1) => show sameL (l.getD j e0) (l'.getD j e0) = true from by
          by_cases e : j = i
          · rw [e]; exact h
          · exact HAll.out j (by omega))
        have HBad := Lib.hid (fun (h : sameL (l.getD i e0) (l'.getD i e0) = false) => sameLs_bad (by rw [HN.out]; exact ci) h)
        obtain ⟨E, hE⟩ : ∃ E, l.getD i e0 = E := ⟨_, rfl⟩
        obtain ⟨F, hF⟩ : ∃ F, l'.getD i e0 = F := ⟨_, rfl⟩
        obtain ⟨B1, hB1⟩ : ∃ B1, (M i).1 = B1 := ⟨_, rfl⟩
        obtain ⟨k1, hk1⟩ : ∃ k1, (M i).2 = k1 := ⟨_, rfl⟩
        obtain ⟨B2, hB2⟩ : ∃ B2, (M' i).1 = B2 := ⟨_, rfl⟩
        obtain ⟨k2, hk2⟩ : ∃ k2, (M' i).2 = k2 := ⟨_, rfl⟩
        rw [hE, hB1, hk1] at hat HS
        rw [hF, hB2, hk2] at hat' HS
        rw [hE, hF] at HGo HBad
        obtain ⟨ss, hss⟩ : ∃ ss, sameL E F = ss := ⟨_, rfl⟩
        rw [hss] at HS HGo HBad
        have HC := Lib.hid hat
        have HC' := Lib.hid hat'
        clear hE hF hB1 hk1 hB2 hk2 hss hat hat' hen hen' HAll HR HR'
        go_upto_region 6 with (first
          | ((with_reducible refine gate 21 rfl ?_); refine load_entA rfl _ rfl rfl HC.out ?_)
          | ((with_reducible refine gate_store 32 rfl ?_); refine store_newE rfl rfl E B1 k1 _ _ rfl rfl rfl ?_; intro w3 hb3 ho3; have HB3 := Lib.hid hb3; have HO3 := Lib.hid ho3; clear hb3 ho3))
        go_upto_region 7 with (first
          | ((with_reducible refine gate 25 rfl ?_); refine load_entA rfl _ rfl rfl (HC'.out.only HO3.out) ?_)
          | ((with_reducible refine gate_store 32 rfl ?_); refine store_newE rfl rfl F B2 k2 _ _ rfl rfl rfl ?_; intro w4 hb4 ho4; have HB4 := Lib.hid hb4; have HO4 := Lib.hid ho4; clear hb4 ho4))
        have HB5 := Lib.hid (HO4.out.keeps HB3.out id)
        have HO5 := Lib.hid (HO3.out.trans' HO4.out)
        cases ss with
        | true =>
          have HGo1 := Lib.hid (HGo.out rfl)
          clear HGo HBad
          go_wp2_with (first
            | ((with_reducible refine gate 27 rfl ?_); refine load_ent rfl _ rfl rfl HB5.out ?_)
            | ((with_reducible refine gate 28 rfl ?_); refine load_ent rfl _ rfl rfl HB4.out ?_)
            | (go_at_call 14; refine (HS.out _ HO5.out).mono ?_; rintro x w5 ⟨rfl, h5⟩; have H5 := Lib.hid (HU.out.trans' (HO5.out.trans' h5)); clear h5))
          exact ⟨⟨i + 1, by simp, by omega, H5, HGo1⟩, by simp [intOf]; omega⟩
        | false =>
          have HR0 := Lib.hid (HBad.out rfl)
          go_wp2_with (first
            | ((with_reducible refine gate 27 rfl ?_); refine load_ent rfl _ rfl rfl HB5.out ?_)
            | ((with_reducible refine gate 28 rfl ?_); refine load_ent rfl _ rfl rfl HB4.out ?_)
            | (go_at_call 14; refine (HS.out _ HO5.out).mono ?_; rintro x w5 ⟨rfl, h5⟩; have H5 := Lib.hid (HU.out.trans' (HO5.out.trans' h5)); clear h5))
          go_ret
          exact ⟨by rw [HR0.out]; rfl, H5.out⟩
      · have e1 : decide ((i : Int) < (n : Int)) = false := decide_eq_false (by omega)
        have e1' : decide (i < n) = false := decide_eq_false ci
        obtain rfl : i = n := by omega
        have HR0 := Lib.hid (sameLs_all (HN.out.trans HN'.out.symm) (fun j hj => HAll.out j (by rw [← HN.out]; exact hj)))
        go_wp2_with fail
        go_ret
        exact ⟨by rw [HR0.out]; rfl, HU.out⟩
  · have HR0 := Lib.hid (sameLs_len (l := l) (m := l') (by rw [hn, hn']; exact q))
    have d1 : ((n : Int) != (n' : Int)) = true := bne_iff_ne.mpr (by omega)
    have d1' : (n != n') = true := bne_iff_ne.mpr q
    clear q hn hn' hR hR'
    go_enter Tryd.func38, Tryd.ntmps38
    go_wp2_with fail
    go_ret
    exact ⟨by rw [HR0.out]; rfl, Only.refl _ _⟩
set_option maxRecDepth 100000 in
set_option maxHeartbeats 4000000 in
theorem samelist_any {w : World} {A A' : Option Addr} {l l' : List Ent} {n c n' c' : Nat} {M M' : Nat → Option Addr × Nat} (hn : l.length = n) (hn' : l'.length = n') (hl : n ≤ 9223372036854775807) (hl' : n' ≤ 9223372036854775807) (hR : RdE w A l M) (hR' : RdE w A' l' M') :
    Calls Tryd.prog 21 #[.slice A n c, .slice A' n' c'] w (BoolPost (sameLs l l') w) := by
  have HE := Lib.hid (equal_any (c := c) (c' := c') hn hn' hl hl' hR hR')
  clear hn hn' hR hR' hl hl'
  go_enter Tryd.func21, Tryd.ntmps21
  go_wp2_with (go_at_call 38; refine HE.out.mono ?_; rintro x w5 ⟨rfl, h5⟩; have H5 := Lib.hid h5; clear h5)
  go_ret
  exact ⟨rfl, H5.out⟩
set_option maxRecDepth 100000 in
set_option maxHeartbeats 4000000 in
theorem find_any {w : World} {A : Option Addr} {l : List Ent} {n c : Nat} {M : Nat → Option Addr × Nat} (t : Str) (hn : l.length = n) (hl : n ≤ 100000) (hR : RdE w A l M) :
    Calls Tryd.prog 18 #[.slice A n c, .string (B t)] w (fun x w' => x = .returned (.int .i64 (findL l t)) ∧ w' = w) := by
  have HN := Lib.hid hn
  have HR := Lib.hid hR
  have b1 : n ≤ 100000 := hl
  have HT := Lib.hid (fun (s : Str) => str_eqB s t)
  obtain ⟨T, hT⟩ : ∃ T, B t = T := ⟨_, rfl⟩
  rw [hT] at HT ⊢
  clear hn hl hR hT
  go_enter Tryd.func18, Tryd.ntmps18
  go_wp2_with fail
  go_loopw [5] (fun v5 u => ∃ k : Nat, v5 = .int .i64 ((k : Int) - 1) ∧ k ≤ n ∧ u = w ∧ Hid (findL l t = findAt l t k)) (fun i _ => (intOf i + 1).toNat)
  case atStart => exact ⟨n, rfl, by omega, rfl, Lib.hid (by unfold findL; rw [HN.out])⟩
  case round =>
    obtain ⟨k, rfl, hk, rfl, HF⟩ := hrel
    by_cases ck : 0 < k
    · obtain ⟨i, rfl⟩ : ∃ i, k = i + 1 := ⟨k - 1, by omega⟩
      have ei : (((i + 1 : Nat) : Int) - 1) = (i : Int) := by omega
      rw [ei]
      have e1 : decide ((i : Int) ≥ 0) = true := decide_eq_true (by omega)
      have e2 : (i : Int) < (n : Int) := by omega
      have e3 : (0 : Int) ≤ (i : Int) := by omega
      obtain ⟨ad, rfl, hat, hen⟩ := HR.out.at (i := i) (by rw [HN.out]; omega)
      have x0 : wr.cell? (ad.add (i * 8)) = some (.string (B (l.getD i e0).path)) := by have := hat 0 _ rfl; rwa [show (ad.add (i * 8)).add 0 = ad.add (i * 8) from by rw [add_add]; rfl] at this
      have g0 := HT.out (l.getD i e0).path
      obtain ⟨p, hp⟩ : ∃ p, (l.getD i e0).path = p := ⟨_, rfl⟩
      have HFi := Lib.hid (show findL l t = if p = t then (i : Int) else findAt l t i by rw [HF.out, ← hp]; rfl)
      rw [hp] at x0 g0
      obtain ⟨S, hS⟩ : ∃ S, B p = S := ⟨_, rfl⟩
      rw [hS] at x0 g0
      by_cases q : p = t
      · rw [decide_eq_true q] at g0
        have HR0 := Lib.hid (HFi.out.trans (if_pos q))
        clear q hp HFi HF hat hen hS ei
        go_wp2_with fail
        go_ret
        exact ⟨by rw [HR0.out]; rfl, by trivial⟩
      · rw [decide_eq_false q] at g0
        have HF2 := Lib.hid (HFi.out.trans (if_neg q))
        clear q hp HFi HF hat hen hS ei
        go_wp2_with fail
        exact ⟨⟨i, by simp, by omega, by trivial, HF2⟩, by simp [intOf]⟩
    · obtain rfl : k = 0 := by omega
      have HR0 := Lib.hid (show findL l t = -1 from HF.out)
      rw [show (((0 : Nat) : Int) - 1) = -1 from rfl]
      go_wp2_with fail
      go_ret
      exact ⟨by rw [HR0.out]; rfl, by trivial⟩
end Go.Proofs.YtihcdecdkpbpmaaDoor.Walks
