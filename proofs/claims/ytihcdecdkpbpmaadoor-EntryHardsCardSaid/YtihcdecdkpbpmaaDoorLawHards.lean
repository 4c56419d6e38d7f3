/- EntryHards. -/
import Derived.Test.YtihcdecdkpbpmaaDoorTold
import Derived.Test.YtihcdecdkpbpmaaDoorGrt
import Derived.Test.YtihcdecdkpbpmaaDoorHrd
import Derived.Test.YtihcdecdkpbpmaaDoorOpenInts
import Derived.OpenShut
import Derived.ChangeOld
namespace Go.Proofs.YtihcdecdkpbpmaaDoor.Walks
open Go Go.RowKit Go.Proofs.YtihcdecdkpbpmaaDoor.Aid Go.Proofs.YtihcdecdkpbpmaaDoor.Pth Go.Proofs.YtihcdecdkpbpmaaDoor.Own Go.Proofs.YtihcdecdkpbpmaaDoorW.PrintWords

def kOf (ks : List Int) (j : Nat) : Int := (IntKind.u64.wrap (ks.getD j 0)).tmod 4
theorem kOf_bd (ks : List Int) (j : Nat) : 0 ≤ kOf ks j ∧ kOf ks j < 4 := by
  unfold kOf
  rw [u64_wrap, Int.tmod_eq_emod_of_nonneg (by omega)]
  omega
theorem aE_0 {k : Int} (h2 : k ≠ 2) (h3 : k ≠ 3) : erow (aE k) none 0 = #[.string ⟨#[97]⟩, .int .i64 (1 + k), .int .i64 0, .int .i64 0, .int .i64 0, .float .f64 0, .string ⟨#[]⟩, .slice none 0 0] := by
  unfold aE erow
  rw [if_neg h2, if_neg h3]
  rfl
theorem hlast {ks : List Int} {i : Nat} {k : Int} (h : kOf ks i = k) : lastA (kOf ks) (i + 1) = 1 + k := by rw [← h]; rfl
attribute [-go_sem] loadVar
attribute [local go_sem] lv9 lv3
set_option maxRecDepth 100000 in
set_option maxHeartbeats 4000000 in
theorem hards_law {w : World} {K : Option Addr} {ks : List Int} {m c : Nat} (hR : RdK .i64 w K ks) (hm' : ks.length = m) (hl : m ≤ 9223372036854775807) (hm : MaxLen w) :
    Calls Tryd.prog 5 #[.slice K m c] w (BoolPost true w) := by
  have HR := Lib.hid hR
  have HL := Lib.hid hm'
  have HM := Lib.hid hm
  have HG := Lib.hid (kOf_bd ks)
  clear hR hm' hm
  go_enter Tryd.func5, Tryd.ntmps5
  go_wp2_with ((with_reducible refine gate 11 rfl ?_); refine buildO1 (base := w.heap.size) (Nat.le_refl _) rfl _ rfl fE rfl rfl ?_; intro v1 w1 hO1 ho1; have HW1 := Lib.hid hO1; have HU1 := Lib.hid ho1; clear hO1 ho1)
  go_loopw [3, 4, 5] (fun v3 v4 v5 u => ∃ i : Nat, v5 = .int .i64 (i : Int) ∧ i ≤ m ∧ i ≤ 8 ∧ v4 = .int .i64 (lastA (kOf ks) i) ∧ Hid (OwnE w.heap.size u v3 ((hL (kOf ks) i).map noD)) ∧ Hid (Only (fun _ => False) w u)) (fun _ _ i _ => m - (intOf i).toNat)
  case atStart => exact ⟨0, rfl, by omega, by omega, rfl, HW1, HU1⟩
  case round =>
    clear HW1 HU1
    obtain ⟨i, rfl, hi, h8, rfl, HOw, HU⟩ := hrel
    by_cases ci : i < m ∧ i < 8
    · obtain ⟨ci1, ci8⟩ := ci
      have e1 : decide ((i : Int) < (m : Int)) = true := decide_eq_true (by omega)
      have e1' : decide (i < m) = true := decide_eq_true ci1
      have e2 : (i : Int) < (m : Int) := by omega
      have e8 : decide ((i : Int) < 8) = true := decide_eq_true (by omega)
      have e8' : decide (i < 8) = true := decide_eq_true ci8
      obtain ⟨ad, rfl, hc⟩ := (rd_only HR.out HU.out) (by rw [HL.out]; omega)
      have hc0 := hc i (by rw [HL.out]; exact ci1)
      obtain ⟨x, hx⟩ : ∃ x, ks.getD i 0 = x := ⟨_, rfl⟩
      obtain ⟨k, hk⟩ : ∃ k, (IntKind.u64.wrap x).tmod 4 = k := ⟨_, rfl⟩
      have HK := Lib.hid (show kOf ks i = k by unfold kOf; rw [hx, hk])
      obtain ⟨k0, k4⟩ := HG.out i
      rw [HK.out] at k0 k4
      rw [hx] at hc0
      clear hc hx
      go_upto_region 8 with ((with_reducible refine gate_store 32 rfl ?_); refine store_newE rfl rfl ⟨[97], 1 + k, 0, 0, 0, 0, [], []⟩ none 0 _ _ rfl rfl rfl ?_; intro w3 hb3 ho3; have HB3 := Lib.hid hb3; have HO3 := Lib.hid ho3; clear hb3 ho3)
      have HGs := Lib.hid (Nat.le_refl wr.heap.size)
      obtain ⟨g, hg⟩ : ∃ g, wr.heap.size = g := ⟨_, rfl⟩
      conv at HGs => arg 1; rhs; rw [hg]
      rw [hg] at HB3 ⊢
      clear hk hc0 hg
      rcases (show k = 2 ∨ k = 3 ∨ (k ≠ 2 ∧ k ≠ 3) by omega) with rfl | rfl | ⟨h2, h3⟩
      · have c6 : w3.cell? ⟨g, 6, none⟩ = some (.string ⟨#[]⟩) := Joins.cell_of_block HB3.out 6
        have f6 : w3.frozen? ⟨g, 6, none⟩ = false := by simp [World.frozen?, HB3.out]
        go_upto_region 12 with (fail)
        have HB9 := Lib.hid (show (w3.setCell ⟨g, 6, none⟩ (.string ⟨#[120]⟩)).heap[g]? = some (.cells (erow (aE 2) none 0) 32 (0, 0)) from Joins.block_setCell HB3.out _)
        have HO9 := Lib.hid (show Only (fun _ => False) wr (w3.setCell ⟨g, 6, none⟩ (.string ⟨#[120]⟩)) from HO3.out.setCell (p := ⟨g, 6, none⟩) (Or.inr HGs.out) _)
        obtain ⟨W9, hW9⟩ : ∃ W9, w3.setCell ⟨g, 6, none⟩ (.string ⟨#[120]⟩) = W9 := ⟨_, rfl⟩
        rw [hW9] at HB9 HO9 ⊢
        clear c6 f6 hW9 HB3 HO3
        go_upto_region 13 with (first
          | ((with_reducible refine gate 39 rfl ?_); refine load_ent rfl _ rfl rfl HB9.out ?_)
          | ((with_reducible refine gate 40 rfl ?_); refine build1 rfl _ rfl (aE 2, none, 0) rfl (fun d hd => by rw [List.mem_singleton.1 hd]; exact ⟨RdU.nil _ _, Nat.le_refl _⟩) ?_; intro b5 w5 hr5 ho5; have HR5 := Lib.hid hr5; have HO5 := Lib.hid (HO9.out.trans' ho5); clear hr5 ho5)
          | ((with_reducible refine gate 41 rfl ?_)
             have q1 := ownE_only HOw.out HO5.out
             have q2 : w.heap.size ≤ w5.heap.size := Nat.le_trans HU.out.size HO5.out.size
             refine ownE_append (base := w.heap.size) rfl _ _ rfl u3 ((hL (kOf ks) i).map noD) (noD (aE 2)) b5 1 rfl rfl q1 (fun i => ((([(aE 2, none, 0)] : List Ent3)[i]?.map (·.2)).getD (none, 0))) ?_ ?_ ?_ q2 ?_ ?_
             · rfl
             · exact HR5.out
             · exact fun ad e => nomatch (show (none : Option Addr) = some ad from e)
             · rw [List.length_map, hL_len]; omega
             intro v7 w7 hO7 ho7
             have HO7 := Lib.hid hO7
             have HU7 := Lib.hid ((HU.out.trans' HO5.out).trans ho7 (fun k hk => Or.inr hk))
             clear hO7 ho7))
        go_wp2_with fail
        refine ⟨⟨i + 1, by simp, by omega, by omega, by rw [show lastA (kOf ks) (i + 1) = _ from hlast HK.out]; try rfl, Lib.hid ?_, HU7⟩, by simp [intOf]; omega⟩
        rw [hL_snoc, List.map_append, HK.out]
        exact HO7.out
      · have c6 : w3.cell? ⟨g, 6, none⟩ = some (.string ⟨#[]⟩) := Joins.cell_of_block HB3.out 6
        have f6 : w3.frozen? ⟨g, 6, none⟩ = false := by simp [World.frozen?, HB3.out]
        go_upto_region 12 with (fail)
        have HB9 := Lib.hid (show (w3.setCell ⟨g, 6, none⟩ (.string ⟨#[102]⟩)).heap[g]? = some (.cells (erow (aE 3) none 0) 32 (0, 0)) from Joins.block_setCell HB3.out _)
        have HO9 := Lib.hid (show Only (fun _ => False) wr (w3.setCell ⟨g, 6, none⟩ (.string ⟨#[102]⟩)) from HO3.out.setCell (p := ⟨g, 6, none⟩) (Or.inr HGs.out) _)
        obtain ⟨W9, hW9⟩ : ∃ W9, w3.setCell ⟨g, 6, none⟩ (.string ⟨#[102]⟩) = W9 := ⟨_, rfl⟩
        rw [hW9] at HB9 HO9 ⊢
        clear c6 f6 hW9 HB3 HO3
        go_upto_region 13 with (first
          | ((with_reducible refine gate 39 rfl ?_); refine load_ent rfl _ rfl rfl HB9.out ?_)
          | ((with_reducible refine gate 40 rfl ?_); refine build1 rfl _ rfl (aE 3, none, 0) rfl (fun d hd => by rw [List.mem_singleton.1 hd]; exact ⟨RdU.nil _ _, Nat.le_refl _⟩) ?_; intro b5 w5 hr5 ho5; have HR5 := Lib.hid hr5; have HO5 := Lib.hid (HO9.out.trans' ho5); clear hr5 ho5)
          | ((with_reducible refine gate 41 rfl ?_)
             have q1 := ownE_only HOw.out HO5.out
             have q2 : w.heap.size ≤ w5.heap.size := Nat.le_trans HU.out.size HO5.out.size
             refine ownE_append (base := w.heap.size) rfl _ _ rfl u3 ((hL (kOf ks) i).map noD) (noD (aE 3)) b5 1 rfl rfl q1 (fun i => ((([(aE 3, none, 0)] : List Ent3)[i]?.map (·.2)).getD (none, 0))) ?_ ?_ ?_ q2 ?_ ?_
             · rfl
             · exact HR5.out
             · exact fun ad e => nomatch (show (none : Option Addr) = some ad from e)
             · rw [List.length_map, hL_len]; omega
             intro v7 w7 hO7 ho7
             have HO7 := Lib.hid hO7
             have HU7 := Lib.hid ((HU.out.trans' HO5.out).trans ho7 (fun k hk => Or.inr hk))
             clear hO7 ho7))
        go_wp2_with fail
        refine ⟨⟨i + 1, by simp, by omega, by omega, by rw [show lastA (kOf ks) (i + 1) = _ from hlast HK.out]; try rfl, Lib.hid ?_, HU7⟩, by simp [intOf]; omega⟩
        rw [hL_snoc, List.map_append, HK.out]
        exact HO7.out
      · have q2 : (k == 2) = false := by simp [h2]
        have q3 : (k == 3) = false := by simp [h3]
        go_upto_region 12 with (fail)
        have HB9 := Lib.hid (show w3.heap[g]? = some (.cells (erow (aE k) none 0) 32 (0, 0)) by rw [aE_0 h2 h3]; exact HB3.out)
        have HO9 := HO3
        go_upto_region 13 with (first
          | ((with_reducible refine gate 39 rfl ?_); refine load_ent rfl _ rfl rfl HB9.out ?_)
          | ((with_reducible refine gate 40 rfl ?_); refine build1 rfl _ rfl (aE k, none, 0) rfl (fun d hd => by rw [List.mem_singleton.1 hd]; exact ⟨RdU.nil _ _, Nat.le_refl _⟩) ?_; intro b5 w5 hr5 ho5; have HR5 := Lib.hid hr5; have HO5 := Lib.hid (HO9.out.trans' ho5); clear hr5 ho5)
          | ((with_reducible refine gate 41 rfl ?_)
             have q1 := ownE_only HOw.out HO5.out
             have q2 : w.heap.size ≤ w5.heap.size := Nat.le_trans HU.out.size HO5.out.size
             refine ownE_append (base := w.heap.size) rfl _ _ rfl u3 ((hL (kOf ks) i).map noD) (noD (aE k)) b5 1 rfl rfl q1 (fun i => ((([(aE k, none, 0)] : List Ent3)[i]?.map (·.2)).getD (none, 0))) ?_ ?_ ?_ q2 ?_ ?_
             · rfl
             · exact HR5.out
             · exact fun ad e => nomatch (show (none : Option Addr) = some ad from e)
             · rw [List.length_map, hL_len]; omega
             intro v7 w7 hO7 ho7
             have HO7 := Lib.hid hO7
             have HU7 := Lib.hid ((HU.out.trans' HO5.out).trans ho7 (fun k hk => Or.inr hk))
             clear hO7 ho7))
        go_wp2_with fail
        refine ⟨⟨i + 1, by simp, by omega, by omega, by rw [show lastA (kOf ks) (i + 1) = _ from hlast HK.out]; try rfl, Lib.hid ?_, HU7⟩, by simp [intOf]; omega⟩
        rw [hL_snoc, List.map_append, HK.out]
        exact HO7.out
    · have hend : i = m ∨ (i < m ∧ i = 8) := by omega
      rcases hend with rfl | ⟨ci1, ci8⟩
      · have e1 : decide ((i : Int) < (i : Int)) = false := decide_eq_false (by omega)
        have e1' : decide (i < i) = false := decide_eq_false (by omega)
        clear HR HL
        obtain ⟨A3, c3, e3, hc3, _⟩ := ownE_rd HOw.out
        rw [List.length_map, hL_len] at e3 hc3
        subst e3
        obtain ⟨la, hla⟩ : ∃ la, lastA (kOf ks) i = la := ⟨_, rfl⟩
        have HLa := Lib.hid hla
        rw [hla]
        have HGo := Lib.hid (hards_after HG.out i)
        rw [hla] at HGo
        clear hla
        have b8 : i ≤ 8 := h8
        go_upto_region 16 with (first
          | ((with_reducible refine gate 48 rfl ?_); refine build1 rfl _ rfl (zE, none, 0) rfl (fun d hd => by rw [List.mem_singleton.1 hd]; exact ⟨RdU.nil _ _, Nat.le_refl _⟩) ?_; intro b5 w5 hr5 ho5; have HR5 := Lib.hid hr5; have HO5 := Lib.hid ho5; clear hr5 ho5)
          | ((with_reducible refine gate 49 rfl ?_)
             have q1 := ownE_only HOw.out HO5.out
             have q2 : w.heap.size ≤ w5.heap.size := Nat.le_trans HU.out.size HO5.out.size
             refine ownE_append (base := w.heap.size) rfl _ _ rfl (.slice A3 (i + 1) c3) ((hL (kOf ks) i).map noD) (noD zE) b5 1 rfl rfl q1 (fun i => ((([(zE, none, 0)] : List Ent3)[i]?.map (·.2)).getD (none, 0))) ?_ ?_ ?_ q2 ?_ ?_
             · rfl
             · exact HR5.out
             · exact fun ad e => nomatch (show (none : Option Addr) = some ad from e)
             · rw [List.length_map, hL_len]; omega
             intro v7 w7 hO7 ho7
             have HO7 := Lib.hid hO7
             have HU7 := Lib.hid ((HU.out.trans' HO5.out).trans ho7 (fun k hk => Or.inr hk))
             clear hO7 ho7))
        obtain ⟨A7, c7, e7, hc7, hr7⟩ := ownE_rd HO7.out
        have hmap : (((hL (kOf ks) i).map noD ++ [noD zE]).map (·.1)) = hL (kOf ks) i ++ [zE] := by
          rw [List.map_append, List.map_map]
          show (hL (kOf ks) i).map id ++ [zE] = _
          rw [List.map_id]
        rw [hmap] at hr7
        rw [List.length_append, List.length_map, hL_len] at e7 hc7
        replace e7 : v7 = .slice A7 (i + 2) c7 := e7
        replace hc7 : i + 2 ≤ c7 := hc7
        subst e7
        have HR7 := Lib.hid hr7
        clear hr7 hmap HO7 HR5 HO5 HOw HU hc3
        by_cases hl1 : la = 1
        · subst hl1
          go_upto_region 19 with (fail)
          rw [if_pos rfl] at HGo
          have HT := Lib.hid (told20_any w7 (HM.out.only HU7.out))
          have HL1 := Lib.hid (fun u (h : Only (fun _ => False) w7 u) => list_any (n := i + 1) (c := c7) (hL_len i) (by omega) (show RdE u A7 (hL (kOf ks) i) _ from by have := rde_take (HR7.out.only h) (i + 1); rw [List.take_left' (hL_len i)] at this; exact this) (hards_ok HG.out i) (HM.out.only (HU7.out.trans' h)))
          rw [hards_before HG.out] at HL1
          have HL2 := Lib.hid (fun u (h : Only (fun _ => False) w7 u) => list_any (n := i + 2) (c := c7) (by rw [List.length_append, hL_len]; rfl) (by omega) (HR7.out.only h) (hards_okz HG.out i) (HM.out.only (HU7.out.trans' h)))
          have HL3 := Lib.hid (fun u (h : Only (fun _ => False) w7 u) => rlist_any (n := i + 2) (c := c7) (by rw [List.length_append, hL_len]; rfl) (by omega) hc7 (HR7.out.only h) (hards_okz HG.out i))
          have HF := Lib.hid (fun u (h : Only (fun _ => False) w7 u) => show Calls Tryd.prog 18 #[.slice A7 (i + 2) c7, .string ⟨#[122]⟩] u (fun x w' => x = .returned (.int .i64 (findL (hL (kOf ks) i ++ [zE]) [122])) ∧ w' = u) from find_any (n := i + 2) (c := c7) [122] (by rw [List.length_append, hL_len]; rfl) (by omega) (HR7.out.only h))
          rw [hards_find] at HF
          rw [HGo.out] at HL2 HL3
          clear HR7 HG HM HGo HLa
          have z1 : i + 1 ≤ c7 := by omega
          have z2 : ((i : Nat) : Int) + 1 ≤ (c7 : Int) := by omega
          go_wp2_with (first
            | (go_at_call 9; refine HT.out.mono ?_; rintro x w8 ⟨rfl, ho⟩; have HO8 := Lib.hid ho; clear ho)
            | (go_at_call 16; (first
                | ((with_reducible refine (HL1.out _ HO8.out).mono ?_); rintro x w9 ⟨rfl, ho⟩; have HO9 := Lib.hid (HO8.out.trans' ho); clear ho)
                | ((with_reducible refine (HL2.out _ HO9.out).mono ?_); rintro x w10 ⟨rfl, ho⟩; have HO10 := Lib.hid (HO9.out.trans' ho); clear ho)))
            | (go_at_call 17; refine (HL3.out _ HO10.out).mono ?_; rintro x w11 ⟨rfl, ho⟩; have HO11 := Lib.hid (HO10.out.trans' ho); clear ho)
            | (go_at_call 18; refine (HF.out _ HO11.out).mono ?_; rintro x w12 ⟨rfl, hw⟩; obtain rfl := hw.symm)
            | (fail))
          go_ret
          exact ⟨rfl, HU7.out.trans' HO11.out⟩
        · have q1 : (la == 1) = false := by simp [hl1]
          go_upto_region 19 with (fail)
          rw [if_neg hl1] at HGo
          have HT := Lib.hid (told20_any w7 (HM.out.only HU7.out))
          have HL1 := Lib.hid (fun u (h : Only (fun _ => False) w7 u) => list_any (n := i + 1) (c := c7) (hL_len i) (by omega) (show RdE u A7 (hL (kOf ks) i) _ from by have := rde_take (HR7.out.only h) (i + 1); rw [List.take_left' (hL_len i)] at this; exact this) (hards_ok HG.out i) (HM.out.only (HU7.out.trans' h)))
          rw [hards_before HG.out] at HL1
          have HL2 := Lib.hid (fun u (h : Only (fun _ => False) w7 u) => list_any (n := i + 2) (c := c7) (by rw [List.length_append, hL_len]; rfl) (by omega) (HR7.out.only h) (hards_okz HG.out i) (HM.out.only (HU7.out.trans' h)))
          have HL3 := Lib.hid (fun u (h : Only (fun _ => False) w7 u) => rlist_any (n := i + 2) (c := c7) (by rw [List.length_append, hL_len]; rfl) (by omega) hc7 (HR7.out.only h) (hards_okz HG.out i))
          have HF := Lib.hid (fun u (h : Only (fun _ => False) w7 u) => show Calls Tryd.prog 18 #[.slice A7 (i + 2) c7, .string ⟨#[122]⟩] u (fun x w' => x = .returned (.int .i64 (findL (hL (kOf ks) i ++ [zE]) [122])) ∧ w' = u) from find_any (n := i + 2) (c := c7) [122] (by rw [List.length_append, hL_len]; rfl) (by omega) (HR7.out.only h))
          rw [hards_find] at HF
          rw [HGo.out] at HL2 HL3
          clear HR7 HG HM HGo HLa
          have z1 : i + 1 ≤ c7 := by omega
          have z2 : ((i : Nat) : Int) + 1 ≤ (c7 : Int) := by omega
          go_wp2_with (first
            | (go_at_call 9; refine HT.out.mono ?_; rintro x w8 ⟨rfl, ho⟩; have HO8 := Lib.hid ho; clear ho)
            | (go_at_call 16; (first
                | ((with_reducible refine (HL1.out _ HO8.out).mono ?_); rintro x w9 ⟨rfl, ho⟩; have HO9 := Lib.hid (HO8.out.trans' ho); clear ho)
                | ((with_reducible refine (HL2.out _ HO9.out).mono ?_); rintro x w10 ⟨rfl, ho⟩; have HO10 := Lib.hid (HO9.out.trans' ho); clear ho)))
            | (go_at_call 17; refine (HL3.out _ HO10.out).mono ?_; rintro x w11 ⟨rfl, ho⟩; have HO11 := Lib.hid (HO10.out.trans' ho); clear ho)
            | (go_at_call 18; refine (HF.out _ HO11.out).mono ?_; rintro x w12 ⟨rfl, hw⟩; obtain rfl := hw.symm)
            | (fail))
          go_ret
          exact ⟨rfl, HU7.out.trans' HO11.out⟩
      · have e1 : decide ((i : Int) < (m : Int)) = true := decide_eq_true (by omega)
        have e1' : decide (i < m) = true := decide_eq_true ci1
        have e8 : decide ((i : Int) < 8) = false := decide_eq_false (by omega)
        have e8' : decide (i < 8) = false := decide_eq_false (by omega)
        clear ci8
        clear HR HL
        obtain ⟨A3, c3, e3, hc3, _⟩ := ownE_rd HOw.out
        rw [List.length_map, hL_len] at e3 hc3
        subst e3
        obtain ⟨la, hla⟩ : ∃ la, lastA (kOf ks) i = la := ⟨_, rfl⟩
        have HLa := Lib.hid hla
        rw [hla]
        have HGo := Lib.hid (hards_after HG.out i)
        rw [hla] at HGo
        clear hla
        have b8 : i ≤ 8 := h8
        go_upto_region 16 with (first
          | ((with_reducible refine gate 48 rfl ?_); refine build1 rfl _ rfl (zE, none, 0) rfl (fun d hd => by rw [List.mem_singleton.1 hd]; exact ⟨RdU.nil _ _, Nat.le_refl _⟩) ?_; intro b5 w5 hr5 ho5; have HR5 := Lib.hid hr5; have HO5 := Lib.hid ho5; clear hr5 ho5)
          | ((with_reducible refine gate 49 rfl ?_)
             have q1 := ownE_only HOw.out HO5.out
             have q2 : w.heap.size ≤ w5.heap.size := Nat.le_trans HU.out.size HO5.out.size
             refine ownE_append (base := w.heap.size) rfl _ _ rfl (.slice A3 (i + 1) c3) ((hL (kOf ks) i).map noD) (noD zE) b5 1 rfl rfl q1 (fun i => ((([(zE, none, 0)] : List Ent3)[i]?.map (·.2)).getD (none, 0))) ?_ ?_ ?_ q2 ?_ ?_
             · rfl
             · exact HR5.out
             · exact fun ad e => nomatch (show (none : Option Addr) = some ad from e)
             · rw [List.length_map, hL_len]; omega
             intro v7 w7 hO7 ho7
             have HO7 := Lib.hid hO7
             have HU7 := Lib.hid ((HU.out.trans' HO5.out).trans ho7 (fun k hk => Or.inr hk))
             clear hO7 ho7))
        obtain ⟨A7, c7, e7, hc7, hr7⟩ := ownE_rd HO7.out
        have hmap : (((hL (kOf ks) i).map noD ++ [noD zE]).map (·.1)) = hL (kOf ks) i ++ [zE] := by
          rw [List.map_append, List.map_map]
          show (hL (kOf ks) i).map id ++ [zE] = _
          rw [List.map_id]
        rw [hmap] at hr7
        rw [List.length_append, List.length_map, hL_len] at e7 hc7
        replace e7 : v7 = .slice A7 (i + 2) c7 := e7
        replace hc7 : i + 2 ≤ c7 := hc7
        subst e7
        have HR7 := Lib.hid hr7
        clear hr7 hmap HO7 HR5 HO5 HOw HU hc3
        by_cases hl1 : la = 1
        · subst hl1
          go_upto_region 19 with (fail)
          rw [if_pos rfl] at HGo
          have HT := Lib.hid (told20_any w7 (HM.out.only HU7.out))
          have HL1 := Lib.hid (fun u (h : Only (fun _ => False) w7 u) => list_any (n := i + 1) (c := c7) (hL_len i) (by omega) (show RdE u A7 (hL (kOf ks) i) _ from by have := rde_take (HR7.out.only h) (i + 1); rw [List.take_left' (hL_len i)] at this; exact this) (hards_ok HG.out i) (HM.out.only (HU7.out.trans' h)))
          rw [hards_before HG.out] at HL1
          have HL2 := Lib.hid (fun u (h : Only (fun _ => False) w7 u) => list_any (n := i + 2) (c := c7) (by rw [List.length_append, hL_len]; rfl) (by omega) (HR7.out.only h) (hards_okz HG.out i) (HM.out.only (HU7.out.trans' h)))
          have HL3 := Lib.hid (fun u (h : Only (fun _ => False) w7 u) => rlist_any (n := i + 2) (c := c7) (by rw [List.length_append, hL_len]; rfl) (by omega) hc7 (HR7.out.only h) (hards_okz HG.out i))
          have HF := Lib.hid (fun u (h : Only (fun _ => False) w7 u) => show Calls Tryd.prog 18 #[.slice A7 (i + 2) c7, .string ⟨#[122]⟩] u (fun x w' => x = .returned (.int .i64 (findL (hL (kOf ks) i ++ [zE]) [122])) ∧ w' = u) from find_any (n := i + 2) (c := c7) [122] (by rw [List.length_append, hL_len]; rfl) (by omega) (HR7.out.only h))
          rw [hards_find] at HF
          rw [HGo.out] at HL2 HL3
          clear HR7 HG HM HGo HLa
          have z1 : i + 1 ≤ c7 := by omega
          have z2 : ((i : Nat) : Int) + 1 ≤ (c7 : Int) := by omega
          go_wp2_with (first
            | (go_at_call 9; refine HT.out.mono ?_; rintro x w8 ⟨rfl, ho⟩; have HO8 := Lib.hid ho; clear ho)
            | (go_at_call 16; (first
                | ((with_reducible refine (HL1.out _ HO8.out).mono ?_); rintro x w9 ⟨rfl, ho⟩; have HO9 := Lib.hid (HO8.out.trans' ho); clear ho)
                | ((with_reducible refine (HL2.out _ HO9.out).mono ?_); rintro x w10 ⟨rfl, ho⟩; have HO10 := Lib.hid (HO9.out.trans' ho); clear ho)))
            | (go_at_call 17; refine (HL3.out _ HO10.out).mono ?_; rintro x w11 ⟨rfl, ho⟩; have HO11 := Lib.hid (HO10.out.trans' ho); clear ho)
            | (go_at_call 18; refine (HF.out _ HO11.out).mono ?_; rintro x w12 ⟨rfl, hw⟩; obtain rfl := hw.symm)
            | (fail))
          go_ret
          exact ⟨rfl, HU7.out.trans' HO11.out⟩
        · have q1 : (la == 1) = false := by simp [hl1]
          go_upto_region 19 with (fail)
          rw [if_neg hl1] at HGo
          have HT := Lib.hid (told20_any w7 (HM.out.only HU7.out))
          have HL1 := Lib.hid (fun u (h : Only (fun _ => False) w7 u) => list_any (n := i + 1) (c := c7) (hL_len i) (by omega) (show RdE u A7 (hL (kOf ks) i) _ from by have := rde_take (HR7.out.only h) (i + 1); rw [List.take_left' (hL_len i)] at this; exact this) (hards_ok HG.out i) (HM.out.only (HU7.out.trans' h)))
          rw [hards_before HG.out] at HL1
          have HL2 := Lib.hid (fun u (h : Only (fun _ => False) w7 u) => list_any (n := i + 2) (c := c7) (by rw [List.length_append, hL_len]; rfl) (by omega) (HR7.out.only h) (hards_okz HG.out i) (HM.out.only (HU7.out.trans' h)))
          have HL3 := Lib.hid (fun u (h : Only (fun _ => False) w7 u) => rlist_any (n := i + 2) (c := c7) (by rw [List.length_append, hL_len]; rfl) (by omega) hc7 (HR7.out.only h) (hards_okz HG.out i))
          have HF := Lib.hid (fun u (h : Only (fun _ => False) w7 u) => show Calls Tryd.prog 18 #[.slice A7 (i + 2) c7, .string ⟨#[122]⟩] u (fun x w' => x = .returned (.int .i64 (findL (hL (kOf ks) i ++ [zE]) [122])) ∧ w' = u) from find_any (n := i + 2) (c := c7) [122] (by rw [List.length_append, hL_len]; rfl) (by omega) (HR7.out.only h))
          rw [hards_find] at HF
          rw [HGo.out] at HL2 HL3
          clear HR7 HG HM HGo HLa
          have z1 : i + 1 ≤ c7 := by omega
          have z2 : ((i : Nat) : Int) + 1 ≤ (c7 : Int) := by omega
          go_wp2_with (first
            | (go_at_call 9; refine HT.out.mono ?_; rintro x w8 ⟨rfl, ho⟩; have HO8 := Lib.hid ho; clear ho)
            | (go_at_call 16; (first
                | ((with_reducible refine (HL1.out _ HO8.out).mono ?_); rintro x w9 ⟨rfl, ho⟩; have HO9 := Lib.hid (HO8.out.trans' ho); clear ho)
                | ((with_reducible refine (HL2.out _ HO9.out).mono ?_); rintro x w10 ⟨rfl, ho⟩; have HO10 := Lib.hid (HO9.out.trans' ho); clear ho)))
            | (go_at_call 17; refine (HL3.out _ HO10.out).mono ?_; rintro x w11 ⟨rfl, ho⟩; have HO11 := Lib.hid (HO10.out.trans' ho); clear ho)
            | (go_at_call 18; refine (HF.out _ HO11.out).mono ?_; rintro x w12 ⟨rfl, hw⟩; obtain rfl := hw.symm)
            | (fail))
          go_ret
          exact ⟨rfl, HU7.out.trans' HO11.out⟩
set_option maxRecDepth 100000 in
set_option maxHeartbeats 4000000 in
theorem lawHards {H : Type} {enc : TypeId × Value → H} {W : World} {base : Nat} {v0 : Value} {d0 : DataW H} {p0 : List MemPlace} {ts : List TypeId} {ds : List (DataW H)} (hm : MaxLen W)
    (ov0 : Value.okWide Tryd.prog W .any base 38 v0) (k0 : DataW.Trod enc Tryd.prog W 0 (fun _ => true) true 38 v0 d0 p0)
    (_ : (DataW.weightsEach Tryd.prog ts ds).all (· ≤ reachBytes) = true) :
    Calls Tryd.prog 5 #[v0] W fun e w' => e = .returned (.bool true) ∧ Below W.heap.size W w' := by
  obtain ⟨A, c, l, rfl, l0, m0, hA, _⟩ := open_nums Tryd.underlying38 Tryd.underlying3 (by kernel_rfl) ov0 k0
  exact (hards_law hA rfl (by omega) hm).mono fun x w' h => ⟨h.1, h.2.none⟩
end Go.Proofs.YtihcdecdkpbpmaaDoor.Walks
