/- EntryTrees. -/
import Derived.Test.YtihcdecdkpbpmaaDoorTold
import Derived.Test.YtihcdecdkpbpmaaDoorGrt
import Derived.Test.YtihcdecdkpbpmaaDoorOpenE
import Derived.Test.YtihcdecdkpbpmaaDoorRTr
import Derived.Test.YtihcdecdkpbpmaaDoorNds
namespace Go.Proofs.YtihcdecdkpbpmaaDoor.Walks
open Go Go.RowKit Go.Proofs.YtihcdecdkpbpmaaDoor.Aid Go.Proofs.YtihcdecdkpbpmaaDoor.Pth Go.Proofs.YtihcdecdkpbpmaaDoor.Own Go.Proofs.YtihcdecdkpbpmaaDoorW.PrintWords

theorem sameLs_paths {l m : List Ent} (h : sameLs l m = true) : pathsL l = pathsL m := by
  unfold sameLs at h
  rw [Bool.and_eq_true, decide_eq_true_eq, List.all_eq_true] at h
  obtain ⟨h1, h2⟩ := h
  unfold pathsL
  apply List.ext_getElem?
  intro i
  rw [List.getElem?_map, List.getElem?_map]
  by_cases c : i < l.length
  · have h3 := h2 i (List.mem_range.2 c)
    unfold sameL at h3
    simp only [Bool.and_eq_true, decide_eq_true_eq] at h3
    have h4 := h3.1
    rw [List.getD_eq_getElem?_getD, List.getD_eq_getElem?_getD, List.getElem?_eq_getElem c, List.getElem?_eq_getElem (show i < m.length by omega)] at h4
    rw [List.getElem?_eq_getElem c, List.getElem?_eq_getElem (show i < m.length by omega)]
    simp only [Option.getD_some] at h4
    simp only [Option.map_some, h4]
  · rw [List.getElem?_eq_none (by omega), List.getElem?_eq_none (by omega)]
theorem small_paths {l : List Ent} (h : greatL l = false) : ∀ E ∈ l, E.path.length ≤ 5000 := fun E hE => ((EOk.of_small h).2 E hE).1
theorem paths_12 {l : List Ent} (h : l.length ≤ 12) : (pathsL l).length ≤ 12 := by unfold pathsL; rw [List.length_map]; exact h
set_option maxRecDepth 100000 in
set_option maxHeartbeats 4000000 in
theorem trees_law {w : World} {A A' : Option Addr} {l m : List Ent} {n c n' c' : Nat} {M M' : Nat → Option Addr × Nat} (hn : l.length = n) (hl : n ≤ 9223372036854775807) (hR : RdE w A l M) (hI : ∀ E ∈ l, EIn E)
    (hn' : m.length = n') (hl' : n' ≤ 9223372036854775807) (hR' : RdE w A' m M') (hI' : ∀ E ∈ m, EIn E) (hm : MaxLen w) :
    Calls Tryd.prog 6 #[.slice A n c, .slice A' n' c'] w (BoolPost true w) := by
  have HN := Lib.hid hn
  have HN' := Lib.hid hn'
  have HR := Lib.hid hR
  have HR' := Lib.hid hR'
  have HM := Lib.hid hm
  have HG := Lib.hid (great_any (c := c) hn hl hR hI)
  have HG' := Lib.hid (great_any (c := c') hn' hl' hR' hI')
  obtain ⟨g, hg⟩ : ∃ g, greatL l = g := ⟨_, rfl⟩
  obtain ⟨g', hg'⟩ : ∃ g', greatL m = g' := ⟨_, rfl⟩
  rw [hg] at HG
  rw [hg'] at HG'
  rcases wayT g (wayT g' True.intro) with rfl | ⟨rfl, rfl | ⟨rfl, _⟩⟩
  iterate 2
    · clear hg hg' hl hR hI hn hm hn' hl' hR' hI'
      go_enter Tryd.func6, Tryd.ntmps6
      go_wp2_with (first
        | (go_at_call 8; (first
            | ((with_reducible refine HG.out.mono ?_); rintro x w1 ⟨rfl, hw⟩; obtain rfl := hw.symm)
            | ((with_reducible refine HG'.out.mono ?_); rintro x w1 ⟨rfl, hw⟩; obtain rfl := hw.symm)))
        | (go_at_call 9; refine (told20_any _ HM.out).mono ?_; rintro x w1 ⟨rfl, ho⟩; have HO := Lib.hid ho; clear ho))
      go_ret
      exact ⟨rfl, HO.out⟩
  obtain ⟨hl12, _⟩ := EOk.of_small hg
  obtain ⟨hl12', _⟩ := EOk.of_small hg'
  have HP := Lib.hid (small_paths hg)
  have HP' := Lib.hid (small_paths hg')
  have H12 := Lib.hid (paths_12 hl12)
  have b1 : n ≤ 12 := by omega
  have b2 : n' ≤ 12 := by omega
  have HSl := Lib.hid (fun u (h : Only (fun _ => False) w u) => samelist_any (c := c) (c' := c') hn hn' hl hl' (hR.only h) (hR'.only h))
  obtain ⟨sv, hsv⟩ : ∃ sv, sameLs l m = sv := ⟨_, rfl⟩
  rw [hsv] at HSl
  have HSv := Lib.hid (fun e : sv = true => (sameLs_paths (hsv.trans e)).symm)
  clear hg hg' hl hR hI hn hm hn' hl' hR' hI' hl12 hl12' hsv
  go_enter Tryd.func6, Tryd.ntmps6
  go_upto_region 4 with (first
    | (go_at_call 8; (first
        | ((with_reducible refine HG.out.mono ?_); rintro x w1 ⟨rfl, hw⟩; obtain rfl := hw.symm)
        | ((with_reducible refine HG'.out.mono ?_); rintro x w1 ⟨rfl, hw⟩; obtain rfl := hw.symm)))
    | (go_at_call 10; refine (tree_any HN.out b1 HR.out HP.out HM.out).mono ?_; rintro x w1 ⟨v1, rfl, ht1, ho1⟩; have HT1 := Lib.hid ht1; have HO1 := Lib.hid ho1; clear ht1 ho1))
  cases sv with
  | false =>
    go_wp2_with (first
      | (go_at_call 9; refine (told20_any _ (HM.out.only HO1.out)).mono ?_; rintro x w2 ⟨rfl, ho⟩; have HX2 := Lib.hid ho; have HO2 := Lib.hid (HO1.out.trans' ho); clear ho)
      | (go_at_call 20; refine (rtree_top HN.out b1 (HR.out.only HO2.out) HP.out).mono ?_; rintro x w3 ⟨v3, rfl, ht3, ho3⟩; have HT3 := Lib.hid ht3; have HX3 := Lib.hid (HX2.out.trans' ho3); have HO3 := Lib.hid (HO2.out.trans' ho3); clear ht3 ho3)
      | (go_at_call 19; refine (nodes_any H12.out 6001 [] _ _ _ (HT1.out.only HX3.out (fun _ _ _ => id)) HT3.out).mono ?_; rintro x w4 ⟨rfl, ho4⟩; have HO4 := Lib.hid (HO3.out.trans' ho4); clear ho4)
      | (go_at_call 21; refine (HSl.out _ HO4.out).mono ?_; rintro x w5 ⟨rfl, ho5⟩; have HO5 := Lib.hid (HO4.out.trans' ho5); clear ho5))
    go_ret
    exact ⟨rfl, HO5.out⟩
  | true =>
    have HPe := Lib.hid (HSv.out rfl)
    go_wp2_with (first
      | (go_at_call 9; refine (told20_any _ (HM.out.only HO1.out)).mono ?_; rintro x w2 ⟨rfl, ho⟩; have HX2 := Lib.hid ho; have HO2 := Lib.hid (HO1.out.trans' ho); clear ho)
      | (go_at_call 20; refine (rtree_top HN.out b1 (HR.out.only HO2.out) HP.out).mono ?_; rintro x w3 ⟨v3, rfl, ht3, ho3⟩; have HT3 := Lib.hid ht3; have HX3 := Lib.hid (HX2.out.trans' ho3); have HO3 := Lib.hid (HO2.out.trans' ho3); clear ht3 ho3)
      | (go_at_call 19; (first
          | ((with_reducible refine (nodes_any H12.out 6001 [] _ _ _ (HT1.out.only HX6.out (fun _ _ _ => id)) HT6.out).mono ?_); rintro x w7 ⟨rfl, ho7⟩; have HO7 := Lib.hid (HO6.out.trans' ho7); clear ho7)
          | ((with_reducible refine (nodes_any H12.out 6001 [] _ _ _ (HT1.out.only HX3.out (fun _ _ _ => id)) HT3.out).mono ?_); rintro x w4 ⟨rfl, ho4⟩; have HX4 := Lib.hid (HX3.out.trans' ho4); have HO4 := Lib.hid (HO3.out.trans' ho4); clear ho4)))
      | (go_at_call 21; refine (HSl.out _ HO4.out).mono ?_; rintro x w5 ⟨rfl, ho5⟩; have HX5 := Lib.hid (HX4.out.trans' ho5); have HO5 := Lib.hid (HO4.out.trans' ho5); clear ho5)
      | (go_at_call 10; refine (tree_any HN'.out b2 (HR'.out.only HO5.out) HP'.out (HM.out.only HO5.out)).mono ?_; rintro x w6 ⟨v6, rfl, ht6, ho6⟩; rw [HPe.out] at ht6; have HT6 := Lib.hid ht6; have HX6 := Lib.hid (HX5.out.trans' ho6); have HO6 := Lib.hid (HO5.out.trans' ho6); clear ht6 ho6))
    go_ret
    exact ⟨rfl, HO7.out⟩
set_option maxRecDepth 100000 in
set_option maxHeartbeats 4000000 in
theorem lawTrees {H : Type} {enc : TypeId × Value → H} {W : World} {base : Nat} {v0 v1 : Value} {d0 d1 : DataW H} {p0 p1 : List MemPlace} {ts : List TypeId} {ds : List (DataW H)} (hm : MaxLen W)
    (ov0 : Value.okWide Tryd.prog W .any base 22 v0) (k0 : DataW.Trod enc Tryd.prog W 0 (fun _ => true) true 22 v0 d0 p0)
    (ov1 : Value.okWide Tryd.prog W .any base 22 v1) (k1 : DataW.Trod enc Tryd.prog W 0 (fun _ => true) true 22 v1 d1 p1)
    (_ : (DataW.weightsEach Tryd.prog ts ds).all (· ≤ reachBytes) = true) :
    Calls Tryd.prog 6 #[v0, v1] W fun e w' => e = .returned (.bool true) ∧ Below W.heap.size W w' := by
  obtain ⟨A, l, n, c, M, rfl, hn, _, hl, hR, hI⟩ := open_ents ov0 k0
  obtain ⟨A', m, n', c', M', rfl, hn', _, hl', hR', hI'⟩ := open_ents ov1 k1
  exact (trees_law hn hl hR hI hn' hl' hR' hI' hm).mono fun x w' h => ⟨h.1, h.2.none⟩
end Go.Proofs.YtihcdecdkpbpmaaDoor.Walks
