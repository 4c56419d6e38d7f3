/- Contract of the reference's tree. -/
import Derived.Test.YtihcdecdkpbpmaaDoorIns
import Derived.Test.YtihcdecdkpbpmaaDoorNdT
import Derived.Test.YtihcdecdkpbpmaaDoorPrt
import Derived.Test.YtihcdecdkpbpmaaDoorTree
import Derived.Deep.QuietTactic
import Derived.BigQuiet
import Derived.Deep.RegionHeld3
namespace Go.Proofs.YtihcdecdkpbpmaaDoor.Walks
open Go Go.RowKit Go.Proofs.YtihcdecdkpbpmaaDoor.Aid Go.Proofs.YtihcdecdkpbpmaaDoor.Pth Go.Proofs.YtihcdecdkpbpmaaDoor.Own Go.Proofs.YtihcdecdkpbpmaaDoor.OwnS Go.Proofs.YtihcdecdkpbpmaaDoorW.PrintWords

theorem tlB (l : Str) : (B l).toList = l := by rw [Lib.toList_data, B_data]
attribute [-go_sem] loadVar
attribute [local go_sem] lv9 lv3 lvN
set_option maxRecDepth 100000 in
set_option maxHeartbeats 4000000 in
theorem rtree_step {w : World} {A : Option Addr} {l : List Ent} {n c : Nat} {M : Nat → Option Addr × Nat} {F : Option Addr} {f : List Str} {m cf d : Nat} (hn : l.length = n) (hl : n ≤ 12) (hR : RdE w A l M) (hE : ∀ E ∈ l, E.path.length ≤ 5000)
    (hF : RdS w F (f.map B)) (hm : f.length = m) (hml : m ≤ 5001)
    (hK : ∀ q u F' cf', q ∈ kidN (pathsL l) f → Only (fun _ => False) w u → RdS u F' ((f ++ [q]).map B) → Calls Tryd.prog 37 #[.slice A n c, .slice F' (m + 1) cf'] u (ToldPost (pathsL l) d (f ++ [q]) u)) :
    Calls Tryd.prog 37 #[.slice A n c, .slice F m cf] w (ToldPost (pathsL l) (d + 1) f w) := by
  have HN := Lib.hid hn
  have HR := Lib.hid hR
  have HE := Lib.hid hE
  have HF := Lib.hid hF
  have HMm := Lib.hid hm
  have HK := Lib.hid hK
  have b1 : n ≤ 12 := hl
  have b2 : m ≤ 5001 := hml
  clear hn hR hE hF hm hK hl hml
  go_enter Tryd.func37, Tryd.ntmps37
  go_wp2_with fail
  go_loopw [5, 6] (fun v5 v6 u => ∃ (i : Nat) (ns : List Nd), v6 = .int .i64 (i : Int) ∧ i ≤ n ∧ Hid (OwnN w.heap.size u v5 ns) ∧ Hid (Sofar ((pathsL l).take i) f ns) ∧ Hid (Only (fun _ => False) w u)) (fun _ i _ => n - (intOf i).toNat)
  case atStart => exact ⟨0, [], rfl, by omega, Lib.hid (ownN_nil _ _), Lib.hid (sofar_nil f), Lib.hid (Only.refl _ w)⟩
  case round =>
    obtain ⟨i, ns, rfl, hi, HO, HS, HU⟩ := hrel
    by_cases ci : i < n
    · have e1 : decide ((i : Int) < (n : Int)) = true := decide_eq_true (by omega)
      have e1' : decide (i < n) = true := decide_eq_true ci
      have e2 : (i : Int) < (n : Int) := by omega
      have hil : i < l.length := by rw [HN.out]; exact ci
      obtain ⟨ad, rfl, hat, hen⟩ := (HR.out.only HU.out).at hil
      have hEm : l.getD i e0 ∈ l := by rw [List.getD_eq_getElem?_getD, List.getElem?_eq_getElem hil]; exact List.getElem_mem hil
      have x0 : wr.cell? (ad.add (i * 8)) = some (.string (B (l.getD i e0).path)) := by have := hat 0 _ rfl; rwa [show (ad.add (i * 8)).add 0 = ad.add (i * 8) from by rw [add_add]; rfl] at this
      have HTk := Lib.hid (show (pathsL l).take (i + 1) = (pathsL l).take i ++ [splitL (l.getD i e0).path] by
        unfold pathsL
        rw [← List.map_take, ← List.map_take, List.take_add_one, List.getElem?_eq_getElem hil, List.map_append]
        rw [List.getD_eq_getElem?_getD, List.getElem?_eq_getElem hil]; rfl)
      have HPl := Lib.hid (show ((pathsL l).take i).length = i by unfold pathsL; rw [List.length_take, List.length_map, HN.out]; omega)
      have HEl := HE.out _ hEm
      have HSp := Lib.hid (fun u => rsplit_right (B (l.getD i e0).path) u (by rw [B_size]; omega))
      have HPn := Lib.hid (show (splitL (l.getD i e0).path).length ≤ 5001 by have := splitL_le (l.getD i e0).path; omega)
      obtain ⟨P, hP⟩ : ∃ P, (pathsL l).take i = P := ⟨_, rfl⟩
      rw [B_data] at HSp
      obtain ⟨p, hp⟩ : ∃ p, splitL (l.getD i e0).path = p := ⟨_, rfl⟩
      rw [hP] at HS HTk HPl
      rw [hp] at HTk HSp HPn
      obtain ⟨S, hS⟩ : ∃ S, B (l.getD i e0).path = S := ⟨_, rfl⟩
      rw [hS] at x0 HSp
      clear hS hP hp hat hen hEm hil HEl
      go_upto_region 6 with (go_at_call 11; refine (HSp.out _).mono ?_; rintro x w4 ⟨A4, c4, rfl, hc4, hr4, ho4⟩; have HR4 := Lib.hid hr4; have HU4 := Lib.hid (HU.out.trans' ho4); have HO4 := Lib.hid (show OwnN w.heap.size w4 u5 ns from ownN_only HO.out ho4 (fun _ _ => id)); clear hr4 ho4 hc4)
      clear x0 HSp HO HU
      by_cases c1 : p.length ≤ m
      · have g1 : decide ((p.length : Int) ≤ (m : Int)) = true := decide_eq_true (by omega)
        have g1' : decide (p.length ≤ m) = true := decide_eq_true c1
        go_wp2_with fail
        exact ⟨⟨i + 1, ns, by simp, by omega, HO4, Lib.hid (by rw [HTk.out]; exact sofar_skip HS.out (under_short (by rw [HMm.out]; exact c1))), HU4⟩, by simp [intOf]; omega⟩
      have g1 : decide ((p.length : Int) ≤ (m : Int)) = false := decide_eq_false (by omega)
      have g1' : decide (p.length ≤ m) = false := decide_eq_false c1
      go_wp2_with fail
      clear g1 g1'
      go_loopw [8, 9] (fun v8 v9 u => ∃ k : Nat, v9 = .int .i64 (k : Int) ∧ k ≤ m ∧ v8 = .bool (decide (p.take k = f.take k)) ∧ Hid (Only (fun _ => False) w4 u)) (fun _ k _ => m - (intOf k).toNat)
      case atStart => exact ⟨0, rfl, by omega, by rw [List.take_zero, List.take_zero]; simp, Lib.hid (Only.refl _ w4)⟩
      case round =>
        obtain ⟨k, rfl, hk, rfl, HW⟩ := hrel
        by_cases ck : k < m
        · have f1 : decide ((k : Int) < (m : Int)) = true := decide_eq_true (by omega)
          have f1' : decide (k < m) = true := decide_eq_true ck
          have f2 : (k : Int) < (m : Int) := by omega
          have f3 : (k : Int) < (p.length : Int) := by omega
          have HFs := Lib.hid (front_step (p := p) (f := f) (k := k) (by omega) (by rw [HMm.out]; exact ck))
          obtain ⟨b, hb⟩ : ∃ b, decide (p.take k = f.take k) = b := ⟨_, rfl⟩
          rw [hb] at HFs
          cases b with
          | false =>
            rw [hb]
            clear hb
            go_upto_region 11 with (fail)
            go_quiet (fail)
            go_wp2_with fail
            exact ⟨⟨k + 1, by simp, by omega, by rw [HFs.out]; rfl, Lib.hid (HW.out.drewN _)⟩, by simp [intOf]; omega⟩
          | true =>
            obtain ⟨ad4, rfl, hc4⟩ := (HR4.out.only HW.out) (by rw [List.length_map]; omega)
            obtain ⟨adf, rfl, hcf⟩ := (HF.out.only (HU4.out.trans' HW.out)) (by rw [List.length_map, HMm.out]; omega)
            have k4 := hc4 k (by rw [List.length_map]; omega)
            rw [getD_mapB (by omega)] at k4
            have kf := hcf k (by rw [List.length_map, HMm.out]; omega)
            rw [getD_mapB (by rw [HMm.out]; exact ck)] at kf
            have g0 := str_eqB (p.getD k []) (f.getD k [])
            obtain ⟨s, hs⟩ : ∃ s, p.getD k [] = s := ⟨_, rfl⟩
            obtain ⟨z, hz⟩ : ∃ z, f.getD k [] = z := ⟨_, rfl⟩
            rw [hs, hz] at g0 HFs
            rw [hs] at k4
            rw [hz] at kf
            obtain ⟨bb, hbb⟩ : ∃ bb, decide (s = z) = bb := ⟨_, rfl⟩
            rw [hbb] at g0 HFs
            obtain ⟨S1, hS1⟩ : ∃ S1, B s = S1 := ⟨_, rfl⟩
            obtain ⟨S2, hS2⟩ : ∃ S2, B z = S2 := ⟨_, rfl⟩
            rw [hS1] at k4 g0
            rw [hS2] at kf g0
            rw [hb]
            clear hb hc4 hcf hs hz hbb hS1 hS2
            go_upto_region 11 with (fail)
            go_quiet (fail)
            go_wp2_with fail
            exact ⟨⟨k + 1, by simp, by omega, by rw [HFs.out]; rfl, Lib.hid (HW.out.drewN _)⟩, by simp [intOf]; omega⟩
        · have f1 : decide ((k : Int) < (m : Int)) = false := decide_eq_false (by omega)
          have f1' : decide (k < m) = false := decide_eq_false ck
          obtain rfl : m = k := by omega
          have hft : f.take m = f := List.take_of_length_le (by rw [HMm.out]; exact Nat.le_refl _)
          have HW5 := Lib.hid (HU4.out.trans' HW.out)
          have HO5 := Lib.hid (show OwnN w.heap.size wr u5 ns from ownN_only HO4.out HW.out (fun _ _ => id))
          have HR5 := Lib.hid (HR4.out.only HW.out)
          rw [hft]
          obtain ⟨inn, hin⟩ : ∃ inn, decide (p.take m = f) = inn := ⟨_, rfl⟩
          clear HW HU4 HO4 HR4 hft
          cases inn with
          | false =>
            have HUn := Lib.hid (under_not (f := f) (p := p) (by rw [HMm.out]; exact of_decide_eq_false hin))
            rw [hin]
            clear hin
            go_wp2_with fail
            exact ⟨⟨i + 1, ns, by simp, by omega, HO5, Lib.hid (by rw [HTk.out]; exact sofar_skip HS.out HUn.out), HW5⟩, by simp [intOf]; omega⟩
          | true =>
            obtain ⟨q, hq⟩ : ∃ q, p[m]? = some q := ⟨_, List.getElem?_eq_getElem (by omega)⟩
            have HUn := Lib.hid (under_at (f := f) (p := p) (by rw [HMm.out]; exact of_decide_eq_true hin) (by rw [HMm.out]; exact hq))
            have HTm := Lib.hid (of_decide_eq_true hin)
            have HQ := Lib.hid hq
            obtain ⟨ad4, rfl, hc4⟩ := HR5.out (by rw [List.length_map]; omega)
            have k4 := hc4 m (by rw [List.length_map]; omega)
            rw [getD_mapB (by omega), List.getD_eq_getElem?_getD, hq] at k4
            replace k4 : wr.cell? (ad4.add m) = some (.string (B q)) := k4
            have f3 : (m : Int) < (p.length : Int) := by omega
            rw [hin]
            clear hin hq hc4 ck f1 f1' hk
            have HTl := Lib.hid (tlB q)
            obtain ⟨Q, hQ⟩ : ∃ Q, B q = Q := ⟨_, rfl⟩
            have HBq := Lib.hid hQ
            rw [hQ] at k4 HTl
            clear hQ
            go_wp2_with fail
            clear k4
            go_loopw [11] (fun v11 u => ∃ k : Nat, v11 = .int .i64 (k : Int) ∧ k ≤ spotD q ns ∧ wr = u) (fun k _ => spotD q ns - (intOf k).toNat)
            case atStart => exact ⟨0, rfl, by omega, by trivial⟩
            case round =>
              obtain ⟨k, rfl, hk, hw⟩ := hrel
              subst hw
              obtain ⟨A5, c5, rfl, hc5, hg5⟩ := ownN_shape HO5.out
              have hlen : ns.length ≤ 12 := by
                have h1 := congrArg List.length HS.out.1
                have h2 := kidN_len P f
                rw [List.length_map] at h1
                have := HPl.out
                omega
              have hspot : spotD q ns ≤ ns.length := by have := spot_le q (ns.map (·.name)); rw [List.length_map] at this; exact this
              by_cases ck : k < spotD q ns
              · obtain ⟨nm, hnm, hless⟩ := spot_lt ck
                have hkl : k < ns.length := by have := (List.getElem?_eq_some_iff.1 hnm).1; rwa [List.length_map] at this
                obtain ⟨Nk, hNk⟩ : ∃ Nk, ns[k]? = some Nk := ⟨_, List.getElem?_eq_getElem hkl⟩
                have hname : Nk.name = nm := by have := name_at hNk; rw [hnm] at this; exact (Option.some.inj this).symm
                obtain ⟨g, rfl, _, _, hcell, _⟩ := ownN_at HO5.out hNk
                have kn : wr.cell? ⟨g, k * 3, none⟩ = some (.string (B Nk.name)) := hcell 0 _ rfl
                rw [hname] at kn
                have f1 : decide ((k : Int) < (ns.length : Int)) = true := decide_eq_true (by omega)
                have f1' : decide (k < ns.length) = true := decide_eq_true hkl
                have f2 : (k : Int) < (ns.length : Int) := by omega
                have hlb : Op.bytesLess (B nm).toList Q.toList = true := by rw [tlB, HTl.out]; exact hless
                obtain ⟨T, hT⟩ : ∃ T, B nm = T := ⟨_, rfl⟩
                rw [hT] at hlb kn
                clear hnm hless hNk hname hcell hg5 hT
                go_wp2_with fail
                exact ⟨⟨k + 1, by simp, by omega, by trivial⟩, by simp [intOf]; omega⟩
              · obtain rfl : spotD q ns = k := by omega
                obtain ⟨k, hkk⟩ : ∃ k, spotD q ns = k := ⟨_, rfl⟩
                have HKk := Lib.hid hkk
                rw [hkk]
                clear hkk ck hk
                have hke : k ≤ ns.length := by rw [← HKk.out]; have := spot_le q (ns.map (·.name)); rw [List.length_map] at this; exact this
                by_cases ce : k = ns.length
                · have HSn := Lib.hid (sofar_new HS.out HUn.out (fun N hN => by rw [HKk.out, ce, List.getElem?_eq_none (Nat.le_refl _)] at hN; cases hN))
                  cases A5 with
                  | none =>
                    obtain ⟨h1, h2, h3⟩ := ownN_none HO5.out
                    subst h1
                    subst h3
                    obtain rfl : k = 0 := ce
                    rw [show ((0 : Nat) : Int) = 0 from rfl]
                    have HNr := Lib.hid (show nrow (newN q) = #[.string Q, .int .i64 (-1), .slice none 0 0] by rw [← HBq.out]; rfl)
                    clear hke hlen hspot hg5 hc5 h2
                    go_upto_region 18 with (fail)
                    go_cut [5] from 55 to 95 (fun v5 u => ∃ (ns' : List Nd) (N : Nd), Hid (OwnN w.heap.size u v5 ns') ∧ Hid (ns'[0]? = some N ∧ N.name = q) ∧ Hid (Sofar (P ++ [p]) f (if p = f ++ [q] then ns'.set 0 (withEnt N P.length) else ns')) ∧ Hid (Only (fun _ => False) w u))
                    case first =>
                      go_region_held3 (fun u => Only (fun _ => False) wr u) (((repeat (first | refine Only.drew ?_ | refine Only.alloc ?_ _)); first | assumption | exact Only.refl _ _)) (first
                        | (fail)
                        | (rw [if_pos (by rfl)]
                           have h86 : Only (fun _ => False) wr (wr.alloc (.cells #[] 48)).drew := ((Only.refl _ wr).alloc _).drew
                           have hO86 : OwnN wr.heap.size (wr.alloc (.cells #[] 48)).drew (.slice (some ⟨wr.heap.size, 0, none⟩) 0 0) [] := ownN_at0 (by omega) (alloc_new wr _)
                           refine appN_wp (.tmp 83) (.tmp 86) rfl (.slice (some ⟨wr.heap.size, 0, none⟩) 0 0) _ [] ([] : List Nd) rfl rfl hO86 _ (RdN.nil (fun _ => False) _ none 0) (fun _ e => by cases e) h86.size (by simp) ?_
                           intro v87 w87 hO87 ho87 _
                           have h87 : Only (fun _ => False) wr w87 := only_new h86 hO86 (Nat.le_refl _) ho87)
                        | (rw [if_pos (by rfl)]
                           have h86 : Only (fun _ => False) wr ((wr.alloc (.cells #[] 48)).alloc (.cells #[.string Q, .int .i64 (-1), .slice none 0 0] 48)).drew := (((Only.refl _ wr).alloc _).alloc _).drew
                           have hO86 : OwnN wr.heap.size ((wr.alloc (.cells #[] 48)).alloc (.cells #[.string Q, .int .i64 (-1), .slice none 0 0] 48)).drew (.slice (some ⟨wr.heap.size, 0, none⟩) 0 0) [] := ownN_at0 (by omega) ((alloc_old (wr.alloc _) _ (by rw [alloc_size]; omega)).trans (alloc_new wr _))
                           refine appN_wp (.tmp 83) (.tmp 86) rfl (.slice (some ⟨wr.heap.size, 0, none⟩) 0 0) _ [] ([] : List Nd) rfl rfl hO86 _ (RdN.nil (fun _ => False) _ none 0) (fun _ e => by cases e) h86.size (by simp) ?_
                           intro v87 w87 hO87 ho87 _
                           have h87 : Only (fun _ => False) wr w87 := only_new h86 hO86 (Nat.le_refl _) ho87
                           have hR90 : w87.heap[wr.heap.size + 1]? = some (.cells #[.string Q, .int .i64 (-1), .slice none 0 0] 48 (0, 0)) := ho87.keeps (by have q := alloc_new (wr.alloc (.cells #[] 48)) (.cells #[.string Q, .int .i64 (-1), .slice none 0 0] 48); rw [alloc_size] at q; exact q) (fun h => by have e : wr.heap.size + 1 = wr.heap.size := Option.some.inj h; omega))
                        | (rw [if_pos (by rfl)]
                           have h86 : Only (fun _ => False) wr ((wr.alloc (.cells #[.string Q, .int .i64 (-1), .slice none 0 0] 48)).alloc (.cells #[] 48)).drew := (((Only.refl _ wr).alloc _).alloc _).drew
                           have hO86 : OwnN wr.heap.size ((wr.alloc (.cells #[.string Q, .int .i64 (-1), .slice none 0 0] 48)).alloc (.cells #[] 48)).drew (.slice (some ⟨wr.heap.size + 1, 0, none⟩) 0 0) [] := ownN_at0 (by omega) (by have q := alloc_new (wr.alloc (.cells #[.string Q, .int .i64 (-1), .slice none 0 0] 48)) (.cells #[] 48); rw [alloc_size] at q; exact q)
                           refine appN_wp (.tmp 83) (.tmp 86) rfl (.slice (some ⟨wr.heap.size + 1, 0, none⟩) 0 0) _ [] ([] : List Nd) rfl rfl hO86 _ (RdN.nil (fun _ => False) _ none 0) (fun _ e => by cases e) h86.size (by simp) ?_
                           intro v87 w87 hO87 ho87 _
                           have h87 : Only (fun _ => False) wr w87 := only_new h86 hO86 (Nat.le_refl _) ho87
                           have hR90 : w87.heap[wr.heap.size]? = some (.cells #[.string Q, .int .i64 (-1), .slice none 0 0] 48 (0, 0)) := ho87.keeps ((alloc_old (wr.alloc _) _ (by rw [alloc_size]; omega)).trans (alloc_new wr _)) (fun h => by have e : wr.heap.size = wr.heap.size + 1 := Option.some.inj h; omega))
                        | (rw [if_pos (by rfl)]
                           have h90 : Only (fun _ => False) wr (w87.alloc (.cells #[.string Q, .int .i64 (-1), .slice none 0 0] 48)) := h87.alloc _
                           have hO90 : OwnN wr.heap.size (w87.alloc (.cells #[.string Q, .int .i64 (-1), .slice none 0 0] 48)) v87 ([] ++ ([] : List Nd)) := ownN_only hO87 ((Only.refl (fun _ => False) w87).alloc _) (fun _ _ => id)
                           refine appN_wp (.tmp 87) (.tmp 90) rfl v87 (.slice (some ⟨w87.heap.size, 0, none⟩) 1 1) ([] ++ ([] : List Nd)) [newN q] rfl rfl hO90 _ (rdN_one (by rw [HNr.out]; exact alloc_new w87 _)) (fun e => by cases e) h90.size (by simp) ?_
                           intro v91 w91 hO91 ho91 _
                           have h91 : Only (fun _ => False) wr w91 := only_new h90 hO90 (Nat.le_refl _) ho91)
                        | (rw [if_pos (by rfl)]
                           refine appN_wp (.tmp 87) (.tmp 90) rfl v87 (.slice (some ⟨_, 0, none⟩) 1 1) ([] ++ ([] : List Nd)) [newN q] rfl rfl hO87 _ (rdN_one (by rw [HNr.out]; exact hR90)) (fun e => by cases e) h87.size (by simp) ?_
                           intro v91 w91 hO91 ho91 _
                           have h91 : Only (fun _ => False) wr w91 := only_new h87 hO87 (Nat.le_refl _) ho91)
                        | (rw [if_pos (by rfl)]
                           refine appN_wp (.tmp 91) (.tmp 94) rfl v91 _ ([] ++ ([] : List Nd) ++ [newN q]) ([] : List Nd) rfl rfl hO91 _ (RdN.nil (fun _ => False) _ none 0) (fun _ => ownN_some hO91 (by simp)) h91.size (by simp) ?_
                           intro v95 w95 hO95 ho95 _
                           have h95 : Only (fun _ => False) wr w95 := only_new h91 hO91 (Nat.le_refl _) ho95))
                      all_goals
                        go_wp2_with fail
                        all_goals
                         go_meet
                         case rel =>
                          refine ⟨insNd q [], newN q, Lib.hid ?_, Lib.hid ⟨?_, rfl⟩, Lib.hid ?_, Lib.hid (HW5.out.trans' h95)⟩
                          · have := ownN_base hO95 HW5.out.size
                            unfold insNd
                            rw [HKk.out]
                            exact this
                          · have := insNd_at q []
                            rw [HKk.out] at this
                            exact this
                          · have := HSn.out
                            rw [HKk.out] at this
                            exact this
                    case rest =>
                      obtain ⟨ns', N, HO6, HN6, HS6, HU6⟩ := hcut
                      obtain ⟨A6, c6, rfl, hc6, _⟩ := ownN_shape HO6.out
                      obtain ⟨g, rfl, hgb, _, hcell, hfz⟩ := ownN_at HO6.out HN6.out.1
                      have HFf := Lib.hid (front_full (f := f) (p := p) (q := q) (by rw [HMm.out]; exact HTm.out) (by rw [HMm.out]; exact HQ.out))
                      have k1 : wc.cell? ⟨g, 0 * 3 + 1, none⟩ = some (.int .i64 N.ent) := hcell 1 _ rfl
                      have fz : wc.frozen? ⟨g, 0 * 3 + 1, none⟩ = false := hfz _
                      have kl : ((0 : Nat) : Int) < (ns'.length : Int) := by have := (List.getElem?_eq_some_iff.1 HN6.out.1).1; omega
                      have HGb := Lib.hid hgb
                      have HHl := Lib.hid (And.intro HO6.out HN6.out.1)
                      clear hcell hfz hgb
                      by_cases cp : p.length = m + 1
                      · have hpf : p = f ++ [q] := HFf.out.2 (by rw [HMm.out]; exact cp)
                        have HS7 := Lib.hid (show Sofar ((pathsL l).take (i + 1)) f (ns'.set 0 (withEnt N (i : Int))) by have := HS6.out; rw [if_pos hpf, HPl.out] at this; rw [HTk.out]; exact this)
                        have g1 : ((p.length : Int) == (m : Int) + 1) = true := by rw [cp]; simp
                        have HCp := Lib.hid cp
                        clear hpf cp HFf HN6 HS6
                        go_wp2_with fail
                        refine ⟨⟨i + 1, _, by simp, by omega, Lib.hid ?_, HS7, Lib.hid (HU6.out.setCell (p := ⟨g, 0 * 3 + 1, none⟩) (Or.inr HGb.out) _)⟩, by simp [intOf]; omega⟩
                        exact ownN_set (r := 1) HHl.out.1 HHl.out.2 (by decide) rfl
                      · have hpf : ¬ p = f ++ [q] := fun e => cp (by have := HFf.out.1 e; rw [HMm.out] at this; exact this)
                        have HS7 := Lib.hid (show Sofar ((pathsL l).take (i + 1)) f ns' by have := HS6.out; rw [if_neg hpf] at this; rw [HTk.out]; exact this)
                        have g1 : ((p.length : Int) == (m : Int) + 1) = false := by rw [beq_eq_false_iff_ne]; omega
                        clear hpf cp HFf HN6 HS6 k1 fz kl
                        go_wp2_with fail
                        exact ⟨⟨i + 1, ns', by simp, by omega, HO6, HS7, HU6⟩, by simp [intOf]; omega⟩
                  | some a5 =>
                    have f1 : decide ((k : Int) < (ns.length : Int)) = false := decide_eq_false (by omega)
                    have f1' : decide (k < ns.length) = false := decide_eq_false (by omega)
                    have f2 : ((k : Int) == (ns.length : Int)) = true := by simp [ce]
                    have f3 : (k : Int) ≤ (ns.length : Int) := by omega
                    have f4 : (k : Int) ≤ (c5 : Int) := by omega
                    have f5 : (ns.length : Int) ≤ (c5 : Int) := by omega
                    obtain ⟨nl, hnl⟩ : ∃ nl, ns.length = nl := ⟨_, rfl⟩
                    have HNl := Lib.hid hnl
                    rw [hnl] at f1 f1' f2 f3 f5 hke hc5 HO5 ⊢
                    have HRd := Lib.hid (fun u (h : Only (fun _ => False) wr u) => (ownN_rd HO5.out).only h (fun _ _ _ => id))
                    have HNl12 := Lib.hid (show nl ≤ 12 by rw [← HNl.out]; exact hlen)
                    have HNr := Lib.hid (show nrow (newN q) = #[.string Q, .int .i64 (-1), .slice none 0 0] by rw [← HBq.out]; rfl)
                    clear ce hnl hg5 hlen hspot
                    go_upto_region 18 with (fail)
                    go_cut [5] from 55 to 95 (fun v5 u => ∃ (ns' : List Nd) (N : Nd), Hid (OwnN w.heap.size u v5 ns') ∧ Hid (ns'[k]? = some N ∧ N.name = q) ∧ Hid (Sofar (P ++ [p]) f (if p = f ++ [q] then ns'.set k (withEnt N P.length) else ns')) ∧ Hid (Only (fun _ => False) w u))
                    case first =>
                      go_region_held3 (fun u => Only (fun _ => False) wr u) (((repeat (first | refine Only.drew ?_ | refine Only.alloc ?_ _)); first | assumption | exact Only.refl _ _)) (first
                        | (fail)
                        | (rw [if_pos (by rfl)]
                           have h86 : Only (fun _ => False) wr (wr.alloc (.cells #[] 48)).drew := ((Only.refl _ wr).alloc _).drew
                           have hO86 : OwnN wr.heap.size (wr.alloc (.cells #[] 48)).drew (.slice (some ⟨wr.heap.size, 0, none⟩) 0 0) [] := ownN_at0 (by omega) (alloc_new wr _)
                           refine appN_wp (.tmp 83) (.tmp 86) rfl (.slice (some ⟨wr.heap.size, 0, none⟩) 0 0) _ [] (ns.take k) rfl rfl hO86 _ (rdN_take (HRd.out _ h86) (by have := HNl.out; omega) c5) (fun _ e => by cases e) h86.size (by have := HNl12.out; rw [List.length_take]; show 0 + _ ≤ _; omega) ?_
                           intro v87 w87 hO87 ho87 _
                           have h87 : Only (fun _ => False) wr w87 := only_new h86 hO86 (Nat.le_refl _) ho87)
                        | (rw [if_pos (by rfl)]
                           have h86 : Only (fun _ => False) wr ((wr.alloc (.cells #[] 48)).alloc (.cells #[.string Q, .int .i64 (-1), .slice none 0 0] 48)).drew := (((Only.refl _ wr).alloc _).alloc _).drew
                           have hO86 : OwnN wr.heap.size ((wr.alloc (.cells #[] 48)).alloc (.cells #[.string Q, .int .i64 (-1), .slice none 0 0] 48)).drew (.slice (some ⟨wr.heap.size, 0, none⟩) 0 0) [] := ownN_at0 (by omega) ((alloc_old (wr.alloc _) _ (by rw [alloc_size]; omega)).trans (alloc_new wr _))
                           refine appN_wp (.tmp 83) (.tmp 86) rfl (.slice (some ⟨wr.heap.size, 0, none⟩) 0 0) _ [] (ns.take k) rfl rfl hO86 _ (rdN_take (HRd.out _ h86) (by have := HNl.out; omega) c5) (fun _ e => by cases e) h86.size (by have := HNl12.out; rw [List.length_take]; show 0 + _ ≤ _; omega) ?_
                           intro v87 w87 hO87 ho87 _
                           have h87 : Only (fun _ => False) wr w87 := only_new h86 hO86 (Nat.le_refl _) ho87
                           have hR90 : w87.heap[wr.heap.size + 1]? = some (.cells #[.string Q, .int .i64 (-1), .slice none 0 0] 48 (0, 0)) := ho87.keeps (by have q := alloc_new (wr.alloc (.cells #[] 48)) (.cells #[.string Q, .int .i64 (-1), .slice none 0 0] 48); rw [alloc_size] at q; exact q) (fun h => by have e : wr.heap.size + 1 = wr.heap.size := Option.some.inj h; omega))
                        | (rw [if_pos (by rfl)]
                           have h86 : Only (fun _ => False) wr ((wr.alloc (.cells #[.string Q, .int .i64 (-1), .slice none 0 0] 48)).alloc (.cells #[] 48)).drew := (((Only.refl _ wr).alloc _).alloc _).drew
                           have hO86 : OwnN wr.heap.size ((wr.alloc (.cells #[.string Q, .int .i64 (-1), .slice none 0 0] 48)).alloc (.cells #[] 48)).drew (.slice (some ⟨wr.heap.size + 1, 0, none⟩) 0 0) [] := ownN_at0 (by omega) (by have q := alloc_new (wr.alloc (.cells #[.string Q, .int .i64 (-1), .slice none 0 0] 48)) (.cells #[] 48); rw [alloc_size] at q; exact q)
                           refine appN_wp (.tmp 83) (.tmp 86) rfl (.slice (some ⟨wr.heap.size + 1, 0, none⟩) 0 0) _ [] (ns.take k) rfl rfl hO86 _ (rdN_take (HRd.out _ h86) (by have := HNl.out; omega) c5) (fun _ e => by cases e) h86.size (by have := HNl12.out; rw [List.length_take]; show 0 + _ ≤ _; omega) ?_
                           intro v87 w87 hO87 ho87 _
                           have h87 : Only (fun _ => False) wr w87 := only_new h86 hO86 (Nat.le_refl _) ho87
                           have hR90 : w87.heap[wr.heap.size]? = some (.cells #[.string Q, .int .i64 (-1), .slice none 0 0] 48 (0, 0)) := ho87.keeps ((alloc_old (wr.alloc _) _ (by rw [alloc_size]; omega)).trans (alloc_new wr _)) (fun h => by have e : wr.heap.size = wr.heap.size + 1 := Option.some.inj h; omega))
                        | (rw [if_pos (by rfl)]
                           have h90 : Only (fun _ => False) wr (w87.alloc (.cells #[.string Q, .int .i64 (-1), .slice none 0 0] 48)) := h87.alloc _
                           have hO90 : OwnN wr.heap.size (w87.alloc (.cells #[.string Q, .int .i64 (-1), .slice none 0 0] 48)) v87 ([] ++ ns.take k) := ownN_only hO87 ((Only.refl (fun _ => False) w87).alloc _) (fun _ _ => id)
                           refine appN_wp (.tmp 87) (.tmp 90) rfl v87 (.slice (some ⟨w87.heap.size, 0, none⟩) 1 1) ([] ++ ns.take k) [newN q] rfl rfl hO90 _ (rdN_one (by rw [HNr.out]; exact alloc_new w87 _)) (fun e => by cases e) h90.size (by have := HNl12.out; have := HNl.out; simp only [List.nil_append, List.length_take, List.length_singleton]; omega) ?_
                           intro v91 w91 hO91 ho91 _
                           have h91 : Only (fun _ => False) wr w91 := only_new h90 hO90 (Nat.le_refl _) ho91)
                        | (rw [if_pos (by rfl)]
                           refine appN_wp (.tmp 87) (.tmp 90) rfl v87 (.slice (some ⟨_, 0, none⟩) 1 1) ([] ++ ns.take k) [newN q] rfl rfl hO87 _ (rdN_one (by rw [HNr.out]; exact hR90)) (fun e => by cases e) h87.size (by have := HNl12.out; have := HNl.out; simp only [List.nil_append, List.length_take, List.length_singleton]; omega) ?_
                           intro v91 w91 hO91 ho91 _
                           have h91 : Only (fun _ => False) wr w91 := only_new h87 hO87 (Nat.le_refl _) ho91)
                        | (rw [if_pos (by rfl)]
                           refine appN_wp (.tmp 91) (.tmp 94) rfl v91 _ ([] ++ ns.take k ++ [newN q]) (ns.drop k) rfl rfl hO91 _ (by first | exact rdN_dropIf (HRd.out _ h91) hc5 k _ | exact rdN_dropL (HRd.out _ h91) hc5 k _ | exact rdN_drop0 (HRd.out _ h91) _) (fun _ => ownN_some hO91 (by simp)) h91.size (by have := HNl12.out; have := HNl.out; simp only [List.nil_append, List.length_append, List.length_drop, List.length_take, List.length_singleton]; omega) ?_
                           intro v95 w95 hO95 ho95 _
                           have h95 : Only (fun _ => False) wr w95 := only_new h91 hO91 (Nat.le_refl _) ho95))
                      all_goals
                        go_wp2_with fail
                        all_goals
                         go_meet
                         case rel =>
                          refine ⟨insNd q ns, newN q, Lib.hid ?_, Lib.hid ⟨?_, rfl⟩, Lib.hid ?_, Lib.hid (HW5.out.trans' h95)⟩
                          · have := ownN_base hO95 HW5.out.size
                            unfold insNd
                            rw [HKk.out]
                            exact this
                          · have := insNd_at q ns
                            rw [HKk.out] at this
                            exact this
                          · have := HSn.out
                            rw [HKk.out] at this
                            exact this
                    case rest =>
                      obtain ⟨ns', N, HO6, HN6, HS6, HU6⟩ := hcut
                      obtain ⟨A6, c6, rfl, hc6, _⟩ := ownN_shape HO6.out
                      obtain ⟨g, rfl, hgb, _, hcell, hfz⟩ := ownN_at HO6.out HN6.out.1
                      have HFf := Lib.hid (front_full (f := f) (p := p) (q := q) (by rw [HMm.out]; exact HTm.out) (by rw [HMm.out]; exact HQ.out))
                      have k1 : wc.cell? ⟨g, k * 3 + 1, none⟩ = some (.int .i64 N.ent) := hcell 1 _ rfl
                      have fz : wc.frozen? ⟨g, k * 3 + 1, none⟩ = false := hfz _
                      have kl : ((k : Nat) : Int) < (ns'.length : Int) := by have := (List.getElem?_eq_some_iff.1 HN6.out.1).1; omega
                      have HGb := Lib.hid hgb
                      have HHl := Lib.hid (And.intro HO6.out HN6.out.1)
                      clear hcell hfz hgb
                      by_cases cp : p.length = m + 1
                      · have hpf : p = f ++ [q] := HFf.out.2 (by rw [HMm.out]; exact cp)
                        have HS7 := Lib.hid (show Sofar ((pathsL l).take (i + 1)) f (ns'.set k (withEnt N (i : Int))) by have := HS6.out; rw [if_pos hpf, HPl.out] at this; rw [HTk.out]; exact this)
                        have g1 : ((p.length : Int) == (m : Int) + 1) = true := by rw [cp]; simp
                        have HCp := Lib.hid cp
                        clear hpf cp HFf HN6 HS6
                        go_wp2_with fail
                        refine ⟨⟨i + 1, _, by simp, by omega, Lib.hid ?_, HS7, Lib.hid (HU6.out.setCell (p := ⟨g, k * 3 + 1, none⟩) (Or.inr HGb.out) _)⟩, by simp [intOf]; omega⟩
                        exact ownN_set (r := 1) HHl.out.1 HHl.out.2 (by decide) rfl
                      · have hpf : ¬ p = f ++ [q] := fun e => cp (by have := HFf.out.1 e; rw [HMm.out] at this; exact this)
                        have HS7 := Lib.hid (show Sofar ((pathsL l).take (i + 1)) f ns' by have := HS6.out; rw [if_neg hpf] at this; rw [HTk.out]; exact this)
                        have g1 : ((p.length : Int) == (m : Int) + 1) = false := by rw [beq_eq_false_iff_ne]; omega
                        clear hpf cp HFf HN6 HS6 k1 fz kl
                        go_wp2_with fail
                        exact ⟨⟨i + 1, ns', by simp, by omega, HO6, HS7, HU6⟩, by simp [intOf]; omega⟩
                · obtain ⟨Nk, hNk⟩ : ∃ Nk, ns[k]? = some Nk := ⟨_, List.getElem?_eq_getElem (by omega)⟩
                  have hless : Op.bytesLess Nk.name q = false := by
                    have := name_at hNk
                    rw [← HKk.out] at this
                    exact spot_at this
                  obtain ⟨g, rfl, hgb, _, hcell, hfz⟩ := ownN_at HO5.out hNk
                  have kn : wr.cell? ⟨g, k * 3, none⟩ = some (.string (B Nk.name)) := hcell 0 _ rfl
                  have hlb : Op.bytesLess (B Nk.name).toList Q.toList = false := by rw [tlB, HTl.out]; exact hless
                  have heq : ((B Nk.name).toList == Q.toList) = decide (Nk.name = q) := by rw [← HBq.out]; exact str_eqB _ _
                  have f1 : decide ((k : Int) < (ns.length : Int)) = true := decide_eq_true (by omega)
                  have f1' : decide (k < ns.length) = true := decide_eq_true (by omega)
                  have f0 : (k : Int) < (ns.length : Int) := by omega
                  have f2 : ((k : Int) == (ns.length : Int)) = false := by rw [beq_eq_false_iff_ne]; omega
                  have f3 : (k : Int) ≤ (ns.length : Int) := by omega
                  have f4 : (k : Int) ≤ (c5 : Int) := by omega
                  have f5 : (ns.length : Int) ≤ (c5 : Int) := by omega
                  obtain ⟨T, hT⟩ : ∃ T, B Nk.name = T := ⟨_, rfl⟩
                  rw [hT] at kn hlb heq
                  by_cases cq : Nk.name = q
                  · rw [decide_eq_true cq] at heq
                    have HS6 := Lib.hid (sofar_have (N := Nk) HS.out HUn.out (by rw [HKk.out]; exact hNk) cq)
                    rw [HKk.out] at HS6
                    have HN6 := Lib.hid (And.intro hNk cq)
                    have HO6 := HO5
                    have HU6 := HW5
                    clear ce hg5 hlen hspot hless hT cq hNk
                    go_upto_region 19 with (fail)
                    have HFf := Lib.hid (front_full (f := f) (p := p) (q := q) (by rw [HMm.out]; exact HTm.out) (by rw [HMm.out]; exact HQ.out))
                    have k1 : wr.cell? ⟨g, k * 3 + 1, none⟩ = some (.int .i64 Nk.ent) := hcell 1 _ rfl
                    have fz : wr.frozen? ⟨g, k * 3 + 1, none⟩ = false := hfz _
                    have kl : ((k : Nat) : Int) < (ns.length : Int) := by have := (List.getElem?_eq_some_iff.1 HN6.out.1).1; omega
                    have HGb := Lib.hid hgb
                    have HHl := Lib.hid (And.intro HO6.out HN6.out.1)
                    clear hcell hfz hgb
                    by_cases cp : p.length = m + 1
                    · have hpf : p = f ++ [q] := HFf.out.2 (by rw [HMm.out]; exact cp)
                      have HS7 := Lib.hid (show Sofar ((pathsL l).take (i + 1)) f (ns.set k (withEnt Nk (i : Int))) by have := HS6.out; rw [if_pos hpf, HPl.out] at this; rw [HTk.out]; exact this)
                      have g1 : ((p.length : Int) == (m : Int) + 1) = true := by rw [cp]; simp
                      have HCp := Lib.hid cp
                      clear hpf cp HFf HN6 HS6
                      go_wp2_with fail
                      refine ⟨⟨i + 1, _, by simp, by omega, Lib.hid ?_, HS7, Lib.hid (HU6.out.setCell (p := ⟨g, k * 3 + 1, none⟩) (Or.inr HGb.out) _)⟩, by simp [intOf]; omega⟩
                      exact ownN_set (r := 1) HHl.out.1 HHl.out.2 (by decide) rfl
                    · have hpf : ¬ p = f ++ [q] := fun e => cp (by have := HFf.out.1 e; rw [HMm.out] at this; exact this)
                      have HS7 := Lib.hid (show Sofar ((pathsL l).take (i + 1)) f ns by have := HS6.out; rw [if_neg hpf] at this; rw [HTk.out]; exact this)
                      have g1 : ((p.length : Int) == (m : Int) + 1) = false := by rw [beq_eq_false_iff_ne]; omega
                      clear hpf cp HFf HN6 HS6 k1 fz kl
                      go_wp2_with fail
                      exact ⟨⟨i + 1, ns, by simp, by omega, HO6, HS7, HU6⟩, by simp [intOf]; omega⟩
                  · rw [decide_eq_false cq] at heq
                    have HSn := Lib.hid (sofar_new HS.out HUn.out (fun N hN => by rw [HKk.out, hNk] at hN; rw [← Option.some.inj hN]; exact cq))
                    obtain ⟨nl, hnl⟩ : ∃ nl, ns.length = nl := ⟨_, rfl⟩
                    have HNl := Lib.hid hnl
                    rw [hnl] at f1 f1' f0 f2 f3 f5 hke hc5 HO5 ⊢
                    have HRd := Lib.hid (fun u (h : Only (fun _ => False) wr u) => (ownN_rd HO5.out).only h (fun _ _ _ => id))
                    have HNl12 := Lib.hid (show nl ≤ 12 by rw [← HNl.out]; exact hlen)
                    have HNr := Lib.hid (show nrow (newN q) = #[.string Q, .int .i64 (-1), .slice none 0 0] by rw [← HBq.out]; rfl)
                    clear ce hnl hg5 hlen hspot hless hcell hT cq hNk hgb hfz
                    go_upto_region 18 with (fail)
                    go_cut [5] from 55 to 95 (fun v5 u => ∃ (ns' : List Nd) (N : Nd), Hid (OwnN w.heap.size u v5 ns') ∧ Hid (ns'[k]? = some N ∧ N.name = q) ∧ Hid (Sofar (P ++ [p]) f (if p = f ++ [q] then ns'.set k (withEnt N P.length) else ns')) ∧ Hid (Only (fun _ => False) w u))
                    case first =>
                      go_region_held3 (fun u => Only (fun _ => False) wr u) (((repeat (first | refine Only.drew ?_ | refine Only.alloc ?_ _)); first | assumption | exact Only.refl _ _)) (first
                        | (fail)
                        | (rw [if_pos (by rfl)]
                           have h86 : Only (fun _ => False) wr (wr.alloc (.cells #[] 48)).drew := ((Only.refl _ wr).alloc _).drew
                           have hO86 : OwnN wr.heap.size (wr.alloc (.cells #[] 48)).drew (.slice (some ⟨wr.heap.size, 0, none⟩) 0 0) [] := ownN_at0 (by omega) (alloc_new wr _)
                           refine appN_wp (.tmp 83) (.tmp 86) rfl (.slice (some ⟨wr.heap.size, 0, none⟩) 0 0) _ [] (ns.take k) rfl rfl hO86 _ (rdN_take (HRd.out _ h86) (by have := HNl.out; omega) c5) (fun _ e => by cases e) h86.size (by have := HNl12.out; rw [List.length_take]; show 0 + _ ≤ _; omega) ?_
                           intro v87 w87 hO87 ho87 _
                           have h87 : Only (fun _ => False) wr w87 := only_new h86 hO86 (Nat.le_refl _) ho87)
                        | (rw [if_pos (by rfl)]
                           have h86 : Only (fun _ => False) wr ((wr.alloc (.cells #[] 48)).alloc (.cells #[.string Q, .int .i64 (-1), .slice none 0 0] 48)).drew := (((Only.refl _ wr).alloc _).alloc _).drew
                           have hO86 : OwnN wr.heap.size ((wr.alloc (.cells #[] 48)).alloc (.cells #[.string Q, .int .i64 (-1), .slice none 0 0] 48)).drew (.slice (some ⟨wr.heap.size, 0, none⟩) 0 0) [] := ownN_at0 (by omega) ((alloc_old (wr.alloc _) _ (by rw [alloc_size]; omega)).trans (alloc_new wr _))
                           refine appN_wp (.tmp 83) (.tmp 86) rfl (.slice (some ⟨wr.heap.size, 0, none⟩) 0 0) _ [] (ns.take k) rfl rfl hO86 _ (rdN_take (HRd.out _ h86) (by have := HNl.out; omega) c5) (fun _ e => by cases e) h86.size (by have := HNl12.out; rw [List.length_take]; show 0 + _ ≤ _; omega) ?_
                           intro v87 w87 hO87 ho87 _
                           have h87 : Only (fun _ => False) wr w87 := only_new h86 hO86 (Nat.le_refl _) ho87
                           have hR90 : w87.heap[wr.heap.size + 1]? = some (.cells #[.string Q, .int .i64 (-1), .slice none 0 0] 48 (0, 0)) := ho87.keeps (by have q := alloc_new (wr.alloc (.cells #[] 48)) (.cells #[.string Q, .int .i64 (-1), .slice none 0 0] 48); rw [alloc_size] at q; exact q) (fun h => by have e : wr.heap.size + 1 = wr.heap.size := Option.some.inj h; omega))
                        | (rw [if_pos (by rfl)]
                           have h86 : Only (fun _ => False) wr ((wr.alloc (.cells #[.string Q, .int .i64 (-1), .slice none 0 0] 48)).alloc (.cells #[] 48)).drew := (((Only.refl _ wr).alloc _).alloc _).drew
                           have hO86 : OwnN wr.heap.size ((wr.alloc (.cells #[.string Q, .int .i64 (-1), .slice none 0 0] 48)).alloc (.cells #[] 48)).drew (.slice (some ⟨wr.heap.size + 1, 0, none⟩) 0 0) [] := ownN_at0 (by omega) (by have q := alloc_new (wr.alloc (.cells #[.string Q, .int .i64 (-1), .slice none 0 0] 48)) (.cells #[] 48); rw [alloc_size] at q; exact q)
                           refine appN_wp (.tmp 83) (.tmp 86) rfl (.slice (some ⟨wr.heap.size + 1, 0, none⟩) 0 0) _ [] (ns.take k) rfl rfl hO86 _ (rdN_take (HRd.out _ h86) (by have := HNl.out; omega) c5) (fun _ e => by cases e) h86.size (by have := HNl12.out; rw [List.length_take]; show 0 + _ ≤ _; omega) ?_
                           intro v87 w87 hO87 ho87 _
                           have h87 : Only (fun _ => False) wr w87 := only_new h86 hO86 (Nat.le_refl _) ho87
                           have hR90 : w87.heap[wr.heap.size]? = some (.cells #[.string Q, .int .i64 (-1), .slice none 0 0] 48 (0, 0)) := ho87.keeps ((alloc_old (wr.alloc _) _ (by rw [alloc_size]; omega)).trans (alloc_new wr _)) (fun h => by have e : wr.heap.size = wr.heap.size + 1 := Option.some.inj h; omega))
                        | (rw [if_pos (by rfl)]
                           have h90 : Only (fun _ => False) wr (w87.alloc (.cells #[.string Q, .int .i64 (-1), .slice none 0 0] 48)) := h87.alloc _
                           have hO90 : OwnN wr.heap.size (w87.alloc (.cells #[.string Q, .int .i64 (-1), .slice none 0 0] 48)) v87 ([] ++ ns.take k) := ownN_only hO87 ((Only.refl (fun _ => False) w87).alloc _) (fun _ _ => id)
                           refine appN_wp (.tmp 87) (.tmp 90) rfl v87 (.slice (some ⟨w87.heap.size, 0, none⟩) 1 1) ([] ++ ns.take k) [newN q] rfl rfl hO90 _ (rdN_one (by rw [HNr.out]; exact alloc_new w87 _)) (fun e => by cases e) h90.size (by have := HNl12.out; have := HNl.out; simp only [List.nil_append, List.length_take, List.length_singleton]; omega) ?_
                           intro v91 w91 hO91 ho91 _
                           have h91 : Only (fun _ => False) wr w91 := only_new h90 hO90 (Nat.le_refl _) ho91)
                        | (rw [if_pos (by rfl)]
                           refine appN_wp (.tmp 87) (.tmp 90) rfl v87 (.slice (some ⟨_, 0, none⟩) 1 1) ([] ++ ns.take k) [newN q] rfl rfl hO87 _ (rdN_one (by rw [HNr.out]; exact hR90)) (fun e => by cases e) h87.size (by have := HNl12.out; have := HNl.out; simp only [List.nil_append, List.length_take, List.length_singleton]; omega) ?_
                           intro v91 w91 hO91 ho91 _
                           have h91 : Only (fun _ => False) wr w91 := only_new h87 hO87 (Nat.le_refl _) ho91)
                        | (rw [if_pos (by rfl)]
                           refine appN_wp (.tmp 91) (.tmp 94) rfl v91 _ ([] ++ ns.take k ++ [newN q]) (ns.drop k) rfl rfl hO91 _ (by first | exact rdN_dropIf (HRd.out _ h91) hc5 k _ | exact rdN_dropL (HRd.out _ h91) hc5 k _ | exact rdN_drop0 (HRd.out _ h91) _) (fun _ => ownN_some hO91 (by simp)) h91.size (by have := HNl12.out; have := HNl.out; simp only [List.nil_append, List.length_append, List.length_drop, List.length_take, List.length_singleton]; omega) ?_
                           intro v95 w95 hO95 ho95 _
                           have h95 : Only (fun _ => False) wr w95 := only_new h91 hO91 (Nat.le_refl _) ho95))
                      all_goals
                        go_wp2_with fail
                        all_goals
                         go_meet
                         case rel =>
                          refine ⟨insNd q ns, newN q, Lib.hid ?_, Lib.hid ⟨?_, rfl⟩, Lib.hid ?_, Lib.hid (HW5.out.trans' h95)⟩
                          · have := ownN_base hO95 HW5.out.size
                            unfold insNd
                            rw [HKk.out]
                            exact this
                          · have := insNd_at q ns
                            rw [HKk.out] at this
                            exact this
                          · have := HSn.out
                            rw [HKk.out] at this
                            exact this
                    case rest =>
                      obtain ⟨ns', N, HO6, HN6, HS6, HU6⟩ := hcut
                      obtain ⟨A6, c6, rfl, hc6, _⟩ := ownN_shape HO6.out
                      obtain ⟨g, rfl, hgb, _, hcell, hfz⟩ := ownN_at HO6.out HN6.out.1
                      have HFf := Lib.hid (front_full (f := f) (p := p) (q := q) (by rw [HMm.out]; exact HTm.out) (by rw [HMm.out]; exact HQ.out))
                      have k1 : wc.cell? ⟨g, k * 3 + 1, none⟩ = some (.int .i64 N.ent) := hcell 1 _ rfl
                      have fz : wc.frozen? ⟨g, k * 3 + 1, none⟩ = false := hfz _
                      have kl : ((k : Nat) : Int) < (ns'.length : Int) := by have := (List.getElem?_eq_some_iff.1 HN6.out.1).1; omega
                      have HGb := Lib.hid hgb
                      have HHl := Lib.hid (And.intro HO6.out HN6.out.1)
                      clear hcell hfz hgb
                      by_cases cp : p.length = m + 1
                      · have hpf : p = f ++ [q] := HFf.out.2 (by rw [HMm.out]; exact cp)
                        have HS7 := Lib.hid (show Sofar ((pathsL l).take (i + 1)) f (ns'.set k (withEnt N (i : Int))) by have := HS6.out; rw [if_pos hpf, HPl.out] at this; rw [HTk.out]; exact this)
                        have g1 : ((p.length : Int) == (m : Int) + 1) = true := by rw [cp]; simp
                        have HCp := Lib.hid cp
                        clear hpf cp HFf HN6 HS6
                        go_wp2_with fail
                        refine ⟨⟨i + 1, _, by simp, by omega, Lib.hid ?_, HS7, Lib.hid (HU6.out.setCell (p := ⟨g, k * 3 + 1, none⟩) (Or.inr HGb.out) _)⟩, by simp [intOf]; omega⟩
                        exact ownN_set (r := 1) HHl.out.1 HHl.out.2 (by decide) rfl
                      · have hpf : ¬ p = f ++ [q] := fun e => cp (by have := HFf.out.1 e; rw [HMm.out] at this; exact this)
                        have HS7 := Lib.hid (show Sofar ((pathsL l).take (i + 1)) f ns' by have := HS6.out; rw [if_neg hpf] at this; rw [HTk.out]; exact this)
                        have g1 : ((p.length : Int) == (m : Int) + 1) = false := by rw [beq_eq_false_iff_ne]; omega
                        clear hpf cp HFf HN6 HS6 k1 fz kl
                        go_wp2_with fail
                        exact ⟨⟨i + 1, ns', by simp, by omega, HO6, HS7, HU6⟩, by simp [intOf]; omega⟩
    · have e1 : decide ((i : Int) < (n : Int)) = false := decide_eq_false (by omega)
      have e1' : decide (i < n) = false := decide_eq_false ci
      obtain rfl : n = i := by omega
      have hall : (pathsL l).take n = pathsL l := List.take_of_length_le (by unfold pathsL; rw [List.length_map, HN.out]; exact Nat.le_refl _)
      rw [hall] at HS
      have HP0 := Lib.hid (fun v u => part_start (d := d) (base := w.heap.size) (v := v) (u := u) HS.out)
      obtain ⟨A5, c5, rfl, hc5, hg5⟩ := ownN_shape HO.out
      have hlen : ns.length ≤ 12 := by
        have h1 := congrArg List.length HS.out.1
        have h2 := kidN_len (pathsL l) f
        have h3 : (pathsL l).length = n := by unfold pathsL; rw [List.length_map, HN.out]
        rw [List.length_map] at h1
        omega
      obtain ⟨nl, hnl⟩ : ∃ nl, ns.length = nl := ⟨_, rfl⟩
      have HNl := Lib.hid hnl
      rw [hnl] at hlen hc5 HO ⊢
      clear hall hg5 hnl ci hi HS
      go_wp2_with fail
      go_loopw [12] (fun v12 u => ∃ (k : Nat) (ms : List Nd), v12 = .int .i64 (k : Int) ∧ k ≤ nl ∧ Hid (ms.length = nl) ∧ Hid (OwnN w.heap.size u (.slice A5 nl c5) ms) ∧ Hid (Part (pathsL l) d f w.heap.size (.slice A5 nl c5) u ms k) ∧ Hid (Only (fun _ => False) w u)) (fun k _ => nl - (intOf k).toNat)
      case atStart => exact ⟨0, ns, rfl, by omega, HNl, HO, Lib.hid (HP0.out _ _), HU⟩
      case round =>
        clear HO HU HNl HP0
        clear ns
        obtain ⟨k, ms, rfl, hk, HNl, HO, HPt, HU⟩ := hrel
        by_cases ck : k < nl
        · have f1 : decide ((k : Int) < (nl : Int)) = true := decide_eq_true (by omega)
          have f1' : decide (k < nl) = true := decide_eq_true ck
          have f2 : (k : Int) < (nl : Int) := by omega
          obtain ⟨N, hN⟩ : ∃ N, ms[k]? = some N := ⟨_, List.getElem?_eq_getElem (by rw [HNl.out]; exact ck)⟩
          obtain ⟨g, rfl, hgb, hgl, hcell, hfz⟩ := ownN_at HO.out hN
          have kn : wr.cell? ⟨g, k * 3, none⟩ = some (.string (B N.name)) := hcell 0 _ rfl
          have kk : wr.cell? ⟨g, k * 3 + 2, none⟩ = some N.kids := hcell 2 _ rfl
          have HNn := Lib.hid hN
          have HQk := Lib.hid (part_name HPt.out hN)
          have HMr := Lib.hid (fun W5 w1 A2 A2n cn (h5 : Only (fun _ => False) wr W5) (h1 : Only (fun _ => False) W5 w1) ht => part_more (A2 := A2) (A2n := A2n) (cn := cn) rfl HU.out HO.out HPt.out hN h5 h1 ht)
          obtain ⟨q, hq⟩ : ∃ q, N.name = q := ⟨_, rfl⟩
          rw [hq] at HQk HMr kn
          obtain ⟨T, hT⟩ : ∃ T, B q = T := ⟨_, rfl⟩
          have HTq := Lib.hid hT
          rw [hT] at kn
          have HFz := Lib.hid hfz
          have HKk := Lib.hid kk
          clear hN hcell hfz hT hq kk hgb hgl
          go_upto_region 24 with (fail)
          go_region_held3 (fun u => Only (fun b => b = g) wr u ∧ u.cell? ⟨g, k * 3, none⟩ = some (.string T)) (first
                | exact keepC kn (by (repeat (first | refine Only.drew ?_ | refine Only.alloc ?_ _)); first | assumption | exact Only.refl _ _)
                | exact keepC_set kn (by first | assumption | exact Only.refl _ _) (by omega)) (first
                | (fail)
                | (rw [if_pos (by rfl)]
                   have h86 : Only (fun _ => False) wr (wr.alloc (.cells #[] 9)).drew := ((Only.refl _ wr).alloc _).drew
                   have hO86 : OwnT wr.heap.size (wr.alloc (.cells #[] 9)).drew (.slice (some ⟨wr.heap.size, 0, none⟩) 0 0) [] := ownT_at0 (by omega) (alloc_new wr _)
                   refine appT_wp (.tmp 116) (.tmp 117) rfl (.slice (some ⟨wr.heap.size, 0, none⟩) 0 0) F m cf [] f rfl rfl HMm.out hO86 (HF.out.only (HU.out.trans' h86)) (fun _ e => by cases e) h86.size (by rw [HMm.out]; show 0 + m ≤ _; omega) ?_
                   intro v87 w87 hO87 ho87
                   have h87 : Only (fun _ => False) wr w87 := only_newT h86 hO86 (Nat.le_refl _) ho87)
                | (rw [if_pos (by rfl)]
                   have h86 : Only (fun _ => False) wr ((wr.alloc (.cells #[] 9)).alloc (.cells #[.string T] 9)).drew := (((Only.refl _ wr).alloc _).alloc _).drew
                   have hO86 : OwnT wr.heap.size ((wr.alloc (.cells #[] 9)).alloc (.cells #[.string T] 9)).drew (.slice (some ⟨wr.heap.size, 0, none⟩) 0 0) [] := ownT_at0 (by omega) ((alloc_old (wr.alloc _) _ (by rw [alloc_size]; omega)).trans (alloc_new wr _))
                   refine appT_wp (.tmp 116) (.tmp 117) rfl (.slice (some ⟨wr.heap.size, 0, none⟩) 0 0) F m cf [] f rfl rfl HMm.out hO86 (HF.out.only (HU.out.trans' h86)) (fun _ e => by cases e) h86.size (by rw [HMm.out]; show 0 + m ≤ _; omega) ?_
                   intro v87 w87 hO87 ho87
                   have h87 : Only (fun _ => False) wr w87 := only_newT h86 hO86 (Nat.le_refl _) ho87
                   have hR90 : w87.heap[wr.heap.size + 1]? = some (.cells #[.string T] 9 (0, 0)) := ho87.keeps (by have q := alloc_new (wr.alloc (.cells #[] 9)) (.cells #[.string T] 9); rw [alloc_size] at q; exact q) (fun h => by have e : wr.heap.size + 1 = wr.heap.size := Option.some.inj h; omega))
                | (rw [if_pos (by rfl)]
                   have h86 : Only (fun _ => False) wr ((wr.alloc (.cells #[.string T] 9)).alloc (.cells #[] 9)).drew := (((Only.refl _ wr).alloc _).alloc _).drew
                   have hO86 : OwnT wr.heap.size ((wr.alloc (.cells #[.string T] 9)).alloc (.cells #[] 9)).drew (.slice (some ⟨wr.heap.size + 1, 0, none⟩) 0 0) [] := ownT_at0 (by omega) (by have q := alloc_new (wr.alloc (.cells #[.string T] 9)) (.cells #[] 9); rw [alloc_size] at q; exact q)
                   refine appT_wp (.tmp 116) (.tmp 117) rfl (.slice (some ⟨wr.heap.size + 1, 0, none⟩) 0 0) F m cf [] f rfl rfl HMm.out hO86 (HF.out.only (HU.out.trans' h86)) (fun _ e => by cases e) h86.size (by rw [HMm.out]; show 0 + m ≤ _; omega) ?_
                   intro v87 w87 hO87 ho87
                   have h87 : Only (fun _ => False) wr w87 := only_newT h86 hO86 (Nat.le_refl _) ho87
                   have hR90 : w87.heap[wr.heap.size]? = some (.cells #[.string T] 9 (0, 0)) := ho87.keeps ((alloc_old (wr.alloc _) _ (by rw [alloc_size]; omega)).trans (alloc_new wr _)) (fun h => by have e : wr.heap.size = wr.heap.size + 1 := Option.some.inj h; omega))
                | (rw [if_pos (by rfl)]
                   have h90 : Only (fun _ => False) wr (w87.alloc (.cells #[.string T] 9)) := h87.alloc _
                   have hO90 : OwnT wr.heap.size (w87.alloc (.cells #[.string T] 9)) v87 ([] ++ f) := ownT_only hO87 ((Only.refl (fun _ => False) w87).alloc _) (fun _ _ => id)
                   refine appT_wp (.tmp 118) (.tmp 124) rfl v87 (some ⟨w87.heap.size, 0, none⟩) 1 1 ([] ++ f) [q] rfl rfl rfl hO90 (rdS_one (by rw [HTq.out]; exact alloc_new w87 _)) (fun e => by cases e) h90.size (by rw [List.nil_append, HMm.out]; show m + 1 ≤ _; omega) ?_
                   intro v91 w91 hO91 ho91
                   have h91 : Only (fun _ => False) wr w91 := only_newT h90 hO90 (Nat.le_refl _) ho91
                   obtain ⟨A9, c9, e9, _, hr9⟩ := ownT_rd hO91
                   have hl9 : ([] ++ f ++ [q]).length = m + 1 := by rw [List.nil_append, List.length_append, HMm.out]; rfl
                   rw [hl9] at e9
                   subst e9)
                | (rw [if_pos (by rfl)]
                   refine appT_wp (.tmp 118) (.tmp 124) rfl v87 (some ⟨_, 0, none⟩) 1 1 ([] ++ f) [q] rfl rfl rfl hO87 (rdS_one (by rw [HTq.out]; exact hR90)) (fun e => by cases e) h87.size (by rw [List.nil_append, HMm.out]; show m + 1 ≤ _; omega) ?_
                   intro v91 w91 hO91 ho91
                   have h91 : Only (fun _ => False) wr w91 := only_newT h87 hO87 (Nat.le_refl _) ho91
                   obtain ⟨A9, c9, e9, _, hr9⟩ := ownT_rd hO91
                   have hl9 : ([] ++ f ++ [q]).length = m + 1 := by rw [List.nil_append, List.length_append, HMm.out]; rfl
                   rw [hl9] at e9
                   subst e9)
                | (go_at_call 37; refine (HK.out q w91 A9 c9 HQk.out (HU.out.trans' h91) (by have := hr9; rw [List.nil_append] at this; exact this)).mono ?_; rintro x w5 ⟨v5, rfl, ht5, ho5⟩; obtain ⟨A5, m5, c5', rfl⟩ := treeIn_shape ht5; have h95 : Only (fun _ => False) wr w5 := h91.trans' ho5; obtain ⟨g', e', _, _, hc5', hf5'⟩ := ownN_at (ownN_only HO.out h95 (fun _ _ => id)) HNn.out; have hg' := congrArg Addr.block (Option.some.inj e'); dsimp only at hg'; subst hg'; have fz := hf5' (k * 3 + 2); have kk5 : w5.cell? ⟨g, k * 3 + 2, none⟩ = some N.kids := hc5' 2 _ rfl; clear hc5' hf5' e'))
          all_goals
              have HPm := Lib.hid (HMr.out w91 w5 A5 m5 c5' h91 ho5 ht5)
              clear HMr HK h87 h91 h95 ht5 ho5
              go_wp2_with fail
              exact ⟨⟨k + 1, ms.set k (withKids N A5 m5 c5'), by simp, by omega, Lib.hid (by rw [List.length_set]; exact HNl.out), Lib.hid HPm.out.1, Lib.hid HPm.out.2.1, Lib.hid HPm.out.2.2⟩, by simp [intOf]; omega⟩
        · have f1 : decide ((k : Int) < (nl : Int)) = false := decide_eq_false (by omega)
          have f1' : decide (k < nl) = false := decide_eq_false ck
          have HPost := Lib.hid (part_end rfl HO.out HPt.out (by rw [HNl.out]; omega) HU.out)
          go_wp2_with fail
          go_ret
          exact HPost.out
theorem paths_len {l : List Ent} (hE : ∀ E ∈ l, E.path.length ≤ 5000) : ∀ p ∈ pathsL l, p.length ≤ 5001 := fun p hp => by
  unfold pathsL at hp
  obtain ⟨E, hEl, rfl⟩ := List.mem_map.1 hp
  have h1 := hE E hEl
  have h2 := splitL_le E.path
  omega
theorem rtree_any {l : List Ent} {A : Option Addr} {n c : Nat} {M : Nat → Option Addr × Nat} (hn : l.length = n) (hl : n ≤ 12) (hE : ∀ E ∈ l, E.path.length ≤ 5000) :
    ∀ (d : Nat) (w : World) (F : Option Addr) (f : List Str) (m cf : Nat), RdE w A l M → RdS w F (f.map B) → f.length = m → m ≤ 5001 → (∀ p ∈ pathsL l, p.length < m + (d + 1)) →
      Calls Tryd.prog 37 #[.slice A n c, .slice F m cf] w (ToldPost (pathsL l) (d + 1) f w)
  | 0, w, F, f, m, cf, hR, hF, hm, hml, hd => rtree_step hn hl hR hE hF hm hml fun q u F' cf' hq _ _ => by
    obtain ⟨p, hp, h2⟩ := mem_kidN.1 hq
    have h1 := hd p hp
    have := h2.length_le
    rw [List.length_append, List.length_singleton] at this
    omega
  | d + 1, w, F, f, m, cf, hR, hF, hm, hml, hd => rtree_step hn hl hR hE hF hm hml fun q u F' cf' hq ho hr => by
    obtain ⟨p, hp, h2⟩ := mem_kidN.1 hq
    have h1 := paths_len hE p hp
    have h3 := h2.length_le
    rw [List.length_append, List.length_singleton] at h3
    exact rtree_any hn hl hE d u F' (f ++ [q]) (m + 1) cf' (hR.only ho) hr (by rw [List.length_append, hm]; rfl) (by omega) fun p hp => by have := hd p hp; omega
set_option maxRecDepth 100000 in
set_option maxHeartbeats 4000000 in
theorem rtree_top {w : World} {A : Option Addr} {l : List Ent} {n c : Nat} {M : Nat → Option Addr × Nat} (hn : l.length = n) (hl : n ≤ 12) (hR : RdE w A l M) (hE : ∀ E ∈ l, E.path.length ≤ 5000) :
    Calls Tryd.prog 20 #[.slice A n c] w (ToldPost (pathsL l) 6001 [] w) := by
  have HT := Lib.hid (rtree_any (c := c) (M := M) hn hl hE 6000 w none [] 0 0 hR (fun h => absurd h (Nat.lt_irrefl 0)) rfl (Nat.zero_le _) (fun p hp => by have := paths_len hE p hp; omega))
  clear hn hl hR hE
  go_enter Tryd.func20, Tryd.ntmps20
  go_wp2_with (go_at_call 37; refine HT.out.mono ?_; rintro x w4 ⟨v4, rfl, ht4, ho4⟩; have HPost := Lib.hid (show ToldPost (pathsL l) 6001 [] w (.returned v4) w4 from ⟨v4, rfl, ht4, ho4⟩); clear ht4 ho4)
  go_ret
  exact HPost.out
end Go.Proofs.YtihcdecdkpbpmaaDoor.Walks
