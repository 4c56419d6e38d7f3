/- Contract of path.Clean. -/
import Derived.Test.YtpghionmmlidnaaGreatDoorClean
import Derived.Test.YtpghionmmlidnaaGreatDoorShelf
import Derived.Test.YtpghionmmlidnaaGreatDoorOwnS
import Derived.WalkKit
import Derived.KernelRfl
import Derived.WalkLawsBesides
import Derived.WalkSpells
import Derived.Deep.QuietTactic
import Derived.BigQuiet
import Derived.BigRegion
import Derived.Deep.Draws
import Derived.Deep.LoopGhost
import Derived.Deep.CutRange
import Derived.Deep.DeepCutAuto
import Derived.Outline
import Derived.Scope
import Derived.WalkMore
import Derived.Lib.Strings
namespace Go.Proofs.YtpghionmmlidnaaGreatDoor.Walks
open Go Go.RowKit Go.Proofs.YtpghionmmlidnaaGreatDoor.Aid Go.Proofs.YtpghionmmlidnaaGreatDoor.Pth Go.Proofs.YtpghionmmlidnaaGreatDoor.OwnS Go.Proofs.YtpghionmmlidnaaGreatDoorW.PrintWords

/-- internal/bytealg.MaxLen holds some number. -/
def MaxLen (w : World) : Prop := ∃ m, w.cell? ⟨1, 0, none⟩ = some (.int .i64 m)
theorem MaxLen.only {w u : World} (h : MaxLen w) (ho : Only (fun _ => False) w u) : MaxLen u := by
  obtain ⟨m, hm⟩ := h
  exact ⟨m, ho.cell hm id⟩
theorem MaxLen.below {w u : World} (h : MaxLen w) (ho : Below w.heap.size w u) : MaxLen u := by
  obtain ⟨m, hm⟩ := h
  exact ⟨m, (ho.cell (World.block_lt_of_cell? w _ hm)).trans hm⟩
theorem str_eq (a b : ByteArray) : (a.toList == b.toList) = decide (a = b) := by
  rw [Lib.toList_data, Lib.toList_data]
  by_cases h : a = b
  · subst h; simp
  · rw [decide_eq_false h]
    exact beq_eq_false_iff_ne.mpr (fun e => h (ByteArray.ext (Array.ext' e)))
theorem index_any (S : ByteArray) (w : World) : Calls Tryz.prog 100 #[.string S, .int .u8 0] w fun e w' => e = .returned (.int .i64 (Lib.indexByte S.data.toList 0)) ∧ w' = w := sh_strings_IndexByte S 0 w
theorem split_any (S : ByteArray) (w : World) (hs : S.size ≤ 1000000) (hm : MaxLen w) : Calls Tryz.prog 104 #[.string S, .string ⟨#[47]⟩] w fun e w' =>
    e = .returned (.slice (some ⟨w.heap.size, 0, none⟩) (partsL S.data.toList).length (partsL S.data.toList).length) ∧ w' = w.alloc (.cells (((partsL S.data.toList).map B).map Value.string).toArray 9) := by
  obtain ⟨m, hm⟩ := hm
  have h := sh_strings_Split S ⟨#[47]⟩ m w (by omega) hm (by decide)
  rw [split_len, split_parts] at h
  exact h
def cleanS (S : ByteArray) : ByteArray := B ((cleanL S.data.toList).getD [])
def cleanB (S : ByteArray) : Bool := (cleanL S.data.toList).isSome
def CleanPost (S : ByteArray) (w : World) (x : Ending) (w' : World) : Prop := x = .returned (.tuple #[.string (cleanS S), .bool (cleanB S)]) ∧ Only (fun _ => False) w w'
theorem indexByte_none (l : Str) (c : UInt8) : Lib.indexByte l c = -1 ↔ c ∉ l := by
  induction l with
  | nil => simp [Lib.indexByte]
  | cons b l ih =>
    have hg := Lib.indexByte_ge l c
    rw [Lib.indexByte]
    by_cases h : b = c
    · subst h; simp
    · rw [if_neg (by simpa using h)]
      have h2 : c ∉ b :: l ↔ c ∉ l := ⟨fun h2 h3 => h2 (List.mem_cons_of_mem _ h3), fun h2 h3 => (List.mem_cons.1 h3).elim (fun e => h e.symm) h2⟩
      rw [h2, ← ih]
      split
      · rename_i h3; exact ⟨fun _ => beq_iff_eq.1 h3, fun _ => rfl⟩
      · rename_i h3; exact ⟨fun e => by omega, fun e => absurd (beq_iff_eq.2 e) h3⟩
theorem head_at {S : ByteArray} {c : UInt8} {r : Str} (h : S.data.toList = c :: r) : 0 < S.size ∧ ∀ h : 0 < S.size, ((S[0]'h).toNat : Int) = (c.toNat : Int) := by
  have hs : S.size = S.data.toList.length := rfl
  refine ⟨by rw [hs, h]; simp, fun h0 => ?_⟩
  have e : S[0]'h0 = S.data.toList[0]'(by rw [← hs]; exact h0) := rfl
  rw [e]
  simp only [h, List.getElem_cons_zero]
theorem clean_bad {S : ByteArray} (h : Bad S.data.toList = true) : cleanS S = ⟨#[]⟩ ∧ cleanB S = false := by
  unfold cleanS cleanB cleanL
  rw [if_pos h]
  exact ⟨rfl, rfl⟩
theorem clean_dots {S : ByteArray} (h : ([46, 46] : Str) ∈ partsL S.data.toList) : cleanS S = ⟨#[]⟩ ∧ cleanB S = false := by
  unfold cleanS cleanB cleanL
  rw [if_pos h]
  split <;> exact ⟨rfl, rfl⟩
theorem clean_none {S : ByteArray} (h : cleanL S.data.toList = none) : cleanS S = ⟨#[]⟩ ∧ cleanB S = false := by
  unfold cleanS cleanB; rw [h]; exact ⟨rfl, rfl⟩
theorem clean_some {S : ByteArray} {c : Str} (h : cleanL S.data.toList = some c) : cleanS S = B c ∧ cleanB S = true := by
  unfold cleanS cleanB; rw [h]; exact ⟨rfl, rfl⟩
theorem own_form {base : Nat} {w : World} {v : Value} {l : List ByteArray} (h : Own base w v l) (h0 : 0 < l.length) : ∃ g c, v = .slice (some ⟨g, 0, none⟩) l.length c ∧ l.length ≤ c ∧ RdS w (some ⟨g, 0, none⟩) l ∧ g < w.heap.size := by
  obtain ⟨g, cap, e, _⟩ := Kd.own_of_R h |>.form h0
  obtain ⟨A, c, e2, hc, hR⟩ := own_rd h
  rw [e] at e2
  injection e2 with e3 _ e5
  subst e3
  obtain ⟨ad, e6, h6⟩ := hR h0
  injection e6 with e6
  subst e6
  exact ⟨g, cap, e, by omega, hR, World.block_lt_of_cell? w _ (h6 0 h0)⟩
theorem map_data (ls : List Str) : (ls.map B).map (·.data.toList) = ls := by
  rw [List.map_map]
  have : ((fun x : ByteArray => x.data.toList) ∘ B) = id := by funext x; exact B_data x
  rw [this, List.map_id]
theorem join_own {base : Nat} {w : World} {v : Value} {ls : List Str} (h : Own base w v (ls.map B)) (hl : (joinL ls).length ≤ 1000000) (hn : ls.length ≤ 1000000) :
    Calls Tryz.prog 105 #[v, .string ⟨#[47]⟩] w fun e w' => e = .returned (.string (B (joinL ls))) ∧ Below w.heap.size w w' := by
  by_cases h0 : 0 < (ls.map B).length
  · obtain ⟨g, c, rfl, hc, hR, hg⟩ := own_form h h0
    obtain ⟨ad, e6, h6⟩ := hR h0
    injection e6 with e6
    subst e6
    have := sh_strings_Join g 0 c (ls.map B) ⟨#[47]⟩ w (fun j x hx => by
      have hj := (List.getElem?_eq_some_iff.1 hx).1
      have := h6 j hj
      rw [List.getD_eq_getElem?_getD, hx, Option.getD_some] at this
      rw [← this]; congr 1; unfold Addr.add; split <;> simp_all) hg (by rw [List.length_map]; omega) hc (by rw [map_data]; show (Lib.join ls [47]).length ≤ _; have : (Lib.join ls [47]).length ≤ 1000000 := hl; omega)
    rw [map_data] at this
    exact this
  · have e : ls = [] := by simpa using h0
    subst e
    obtain ⟨A, c, rfl, _, _⟩ := own_rd h
    refine (sh_strings_Join_none A c ⟨#[47]⟩ w).mono ?_
    rintro x w' ⟨rfl, rfl⟩
    exact ⟨rfl, Below.refl _ _⟩
theorem toList_B (l : Str) : (B l).toList = l := by rw [Lib.toList_data, B_data]
theorem isEmpty_B (l : Str) : (B l).toList.isEmpty = decide (l = []) := by rw [toList_B]; cases l <;> rfl
theorem beq_decide (a b : Str) : (a == b) = decide (a = b) := by
  by_cases h : a = b
  · rw [decide_eq_true h]; exact beq_iff_eq.mpr h
  · rw [decide_eq_false h]; exact beq_eq_false_iff_ne.mpr h
theorem one_at (w : World) (P : ByteArray) : RdS (w.alloc (.cells #[.string P] 9)) (some ⟨w.heap.size, 0, none⟩) [P] := fun _ => ⟨_, rfl, fun j hj => by
  have e : j = 0 := by simpa using hj
  subst e
  rw [Addr.add_zero']
  have := Joins.cell_of_block (alloc_new w (.cells #[.string P] 9)) 0
  rw [this]
  rfl⟩
theorem pieces_at {w w2 : World} {ps : List Str} (h : w2 = w.alloc (.cells ((ps.map B).map Value.string).toArray 9)) :
    (∀ u, Below w2.heap.size w2 u → ∀ j, j < ps.length → u.cell? ⟨w.heap.size, j, none⟩ = some (.string (B (ps.getD j [])))) ∧ Only (fun _ => False) w w2 := by
  subst h
  refine ⟨fun u hu j hj => ?_, (Only.refl _ w).alloc _⟩
  have hn := alloc_new w (.cells ((ps.map B).map Value.string).toArray 9)
  have hlt : w.heap.size < (w.alloc (.cells ((ps.map B).map Value.string).toArray 9)).heap.size := by rw [alloc_size]; omega
  rw [hu.cell hlt, World.cell?]
  simp only [hn]
  rw [List.getElem?_toArray, List.getElem?_map, List.getElem?_map, List.getElem?_eq_getElem hj, List.getD_eq_getElem?_getD, List.getElem?_eq_getElem hj]
  rfl
theorem take_snoc {α : Type} {l : List α} {i : Nat} {d x : α} (h : i < l.length) (hx : l.getD i d = x) : l.take (i + 1) = l.take i ++ [x] := by
  rw [List.take_add_one, List.getElem?_eq_getElem h]
  rw [List.getD_eq_getElem?_getD, List.getElem?_eq_getElem h] at hx
  rw [← hx]; rfl
set_option maxRecDepth 100000 in
set_option maxHeartbeats 4000000 in
theorem clean_any (S : ByteArray) (w : World) (hs : S.size ≤ 500000) (hm : MaxLen w) : Calls Tryz.prog 86 #[.string S] w (CleanPost S w) := by
  have HS := Lib.hid hs
  have HM := Lib.hid hm
  clear hs hm
  cases hl : S.data.toList with
  | nil =>
    have HB := Lib.hid (clean_bad (S := S) (by unfold Bad; rw [hl]; rfl))
    have e1 : S.toList.isEmpty = true := by rw [Lib.toList_data, hl]; rfl
    clear hl
    go_enter Tryz.func86, Tryz.ntmps86
    go_wp2_with fail
    go_step3
    go_wp2_with fail
    rw [Exit.noGoto_ret]
    go_ret2
    exact ⟨by rw [HB.out.1, HB.out.2]; rfl, Only.refl _ _⟩
  | cons ch r =>
    have e1 : S.toList.isEmpty = false := by rw [Lib.toList_data, hl]; rfl
    obtain ⟨h0, hx⟩ := head_at hl
    by_cases h47 : ch = 47
    · have HB := Lib.hid (clean_bad (S := S) (by unfold Bad; rw [hl, h47]; rfl))
      have e2 : ((ch.toNat : Int) == 47) = true := by rw [h47]; rfl
      clear hl h47
      go_enter Tryz.func86, Tryz.ntmps86
      go_wp2_with fail
      go_step3
      go_wp2_with fail
      rw [Exit.noGoto_ret]
      go_ret2
      exact ⟨by rw [HB.out.1, HB.out.2]; rfl, Only.refl _ _⟩
    have e2 : ((ch.toNat : Int) == 47) = false := beq_eq_false_iff_ne.mpr (fun e => h47 (UInt8.toNat.inj (by exact_mod_cast e)))
    obtain ⟨ix, hix⟩ : ∃ ix, Lib.indexByte S.data.toList 0 = ix := ⟨_, rfl⟩
    by_cases hz : (0 : UInt8) ∈ S.data.toList
    · have HB := Lib.hid (clean_bad (S := S) (by unfold Bad; exact decide_eq_true (Or.inr (Or.inr hz))))
      have e3 : decide (ix ≥ 0) = true := decide_eq_true (by
        have := Lib.indexByte_ge S.data.toList 0
        have h2 := (indexByte_none S.data.toList 0).1
        rw [hix] at this h2
        by_cases c : ix = -1
        · exact absurd hz (h2 c)
        · omega)
      have HX := Lib.hid hix
      clear hl h47 hz hix
      go_enter Tryz.func86, Tryz.ntmps86
      go_wp2_with fail
      go_step3
      go_wp2_with fail
      refine (index_any S w).mono ?_
      rintro x w1 ⟨rfl, rfl⟩
      rw [HX.out]
      go_wp2_with fail
      rw [Exit.noGoto_ret]
      go_ret2
      exact ⟨by rw [HB.out.1, HB.out.2]; rfl, Only.refl _ _⟩
    have e3 : decide (ix ≥ 0) = false := decide_eq_false (by
      have h2 := (indexByte_none S.data.toList 0).2 hz
      omega)
    have HX := Lib.hid hix
    have hbad : Bad S.data.toList = false := decide_eq_false (by
      rintro (h | h | h)
      · rw [hl] at h; cases h
      · rw [hl] at h; exact h47 (by simpa using h)
      · exact hz h)
    have HBad := Lib.hid hbad
    obtain ⟨ps, hps⟩ : ∃ ps, partsL S.data.toList = ps := ⟨_, rfl⟩
    have HPS := Lib.hid hps
    have hlen : ps.length ≤ 500001 := by rw [← hps, ← split_len]; have := Lib.countB_le ⟨#[47]⟩ (by decide) _ S (Nat.le_refl _); have := HS.out; omega
    have HLen := Lib.hid hlen
    clear hl h47 hz hix hbad hps hlen
    go_enter Tryz.func86, Tryz.ntmps86
    go_wp2_with fail
    go_step3
    go_wp2_with fail
    refine (index_any S w).mono ?_
    rintro x w1 ⟨rfl, rfl⟩
    rw [HX.out]
    go_wp2_with fail
    go_step3
    go_wp2_with fail
    refine (split_any S _ (by have := HS.out; omega) HM.out).mono ?_
    rintro x w2 ⟨rfl, hw2⟩
    rw [HPS.out] at hw2 ⊢
    obtain ⟨hc2, ho2⟩ := pieces_at hw2
    have HC2 := Lib.hid hc2
    have HO2 := Lib.hid ho2
    have q0 : (0 : Int) ≤ (ps.length : Int) := by omega
    clear hw2 hc2 ho2
    go_wp2_with fail
    go_loopw [4, 23] (fun v4 v23 u => ∃ i : Nat, v23 = .int .i64 (i : Int) ∧ i ≤ ps.length ∧ Hid (Own w2.heap.size u v4 (((ps.take i).filter Keep).map B)) ∧ Hid (Below w2.heap.size w2 u) ∧ Hid (([46, 46] : Str) ∉ ps.take i)) (fun _ i _ => ps.length - (intOf i).toNat)
    case atStart => exact ⟨0, rfl, by omega, Lib.hid (own_nil _ _), Lib.hid (Below.refl _ _), Lib.hid (by simp)⟩
    case round =>
      obtain ⟨i, rfl, hi, HO, HB, HN⟩ := hrel
      by_cases c1 : i < ps.length
      · have d1 : decide ((i : Int) < (ps.length : Int)) = true := decide_eq_true (by omega)
        have d1' : decide (i < ps.length) = true := decide_eq_true c1
        have d2 : (i : Int) < (ps.length : Int) := by omega
        have c0 := HC2.out _ HB.out i c1
        obtain ⟨p, hp⟩ : ∃ p, ps.getD i [] = p := ⟨_, rfl⟩
        rw [hp] at c0
        have HT := Lib.hid (take_snoc c1 hp)
        obtain ⟨P, hP⟩ : ∃ P, B p = P := ⟨_, rfl⟩
        rw [hP] at c0
        have HPp := Lib.hid hP
        have b1 : (i : Int) ≤ 500001 := by have := HLen.out; omega
        have e0 : P.toList.isEmpty = decide (p = []) := by rw [← hP, isEmpty_B]
        by_cases k1 : p = []
        · have e4 : P.toList.isEmpty = true := by rw [e0, decide_eq_true k1]
          have HO3 := Lib.hid (show Own w2.heap.size wr u4 (((ps.take (i + 1)).filter Keep).map B) by rw [HT.out, List.filter_append, k1]; simpa [Keep] using HO.out)
          have HN3 := Lib.hid (show ([46, 46] : Str) ∉ ps.take (i + 1) by rw [HT.out, k1]; simpa using HN.out)
          clear hP hp k1 e0
          go_wp2_with fail
          exact ⟨⟨i + 1, by simp, by omega, HO3, HB, HN3⟩, by simp [intOf]; omega⟩
        have e4 : P.toList.isEmpty = false := by rw [e0, decide_eq_false k1]
        have e5 : (P.toList == ([46] : List UInt8)) = decide (p = [46]) := by rw [← hP, toList_B, beq_decide]
        have e6 : (P.toList == ([46, 46] : List UInt8)) = decide (p = [46, 46]) := by rw [← hP, toList_B, beq_decide]
        by_cases k2 : p = [46]
        · rw [decide_eq_true k2] at e5
          have HO3 := Lib.hid (show Own w2.heap.size wr u4 (((ps.take (i + 1)).filter Keep).map B) by rw [HT.out, List.filter_append, k2]; simpa [Keep] using HO.out)
          have HN3 := Lib.hid (show ([46, 46] : Str) ∉ ps.take (i + 1) by rw [HT.out, k2]; simpa using HN.out)
          clear hP hp k1 k2 e0 e6
          go_wp2_with fail
          exact ⟨⟨i + 1, by simp, by omega, HO3, HB, HN3⟩, by simp [intOf]; omega⟩
        rw [decide_eq_false k2] at e5
        by_cases k3 : p = [46, 46]
        · rw [decide_eq_true k3] at e6
          have HD := Lib.hid (clean_dots (S := S) (by rw [HPS.out, ← k3, ← hp, List.getD_eq_getElem?_getD, List.getElem?_eq_getElem c1]; exact List.getElem_mem c1))
          clear hP hp k1 k2 k3 e0
          go_wp2_with fail
          rw [Exit.noGoto_ret]
          go_ret2
          exact ⟨by rw [HD.out.1, HD.out.2]; rfl, HO2.out.trans' (Only.of_below HB.out _)⟩
        rw [decide_eq_false k3] at e6
        have HN3 := Lib.hid (show ([46, 46] : Str) ∉ ps.take (i + 1) by rw [HT.out]; simp; exact ⟨HN.out, fun e => k3 e.symm⟩)
        have HK := Lib.hid (show ((ps.take (i + 1)).filter Keep).map B = ((ps.take i).filter Keep).map B ++ [P] by rw [HT.out, List.filter_append, List.map_append]; simp [Keep, k1, k2, hP])
        have HL3 := Lib.hid (show (((ps.take i).filter Keep).map B).length ≤ 500001 by
          rw [List.length_map]; have := List.length_filter_le Keep (ps.take i); rw [List.length_take] at this; omega)
        have HBs := HB.out.size
        clear hP hp k1 k2 k3 e0
        go_wp2_with (first
          | (with_reducible refine gate 36 rfl ?_
             refine gate_guard (by rfl) ?_; dsimp only
             refine own_append (base := w2.heap.size) (w0 := w2) rfl (.tmp 33) (.tmp 35) rfl u4 _ [P] _ 1 1 rfl rfl rfl (own_only HO.out ((Only.refl _ wr).alloc _)) (one_at wr P) (HB.out.alloc HBs _) (by rw [alloc_size]; omega) (by have := HL3.out; have := HLen.out; simp only [List.length_cons, List.length_nil]; omega) ?_
             intro v5 w5 hO5 hB5 hs5))
        have HO6 := Lib.hid (show Own w2.heap.size w5 v5 (((ps.take (i + 1)).filter Keep).map B) by rw [HK.out]; exact hO5)
        have HB6 := Lib.hid hB5
        exact ⟨⟨i + 1, by simp, by omega, HO6, HB6, HN3⟩, by simp [intOf]; omega⟩
      · have d1 : decide ((i : Int) < (ps.length : Int)) = false := decide_eq_false (by omega)
        have d1' : decide (i < ps.length) = false := decide_eq_false c1
        obtain rfl : i = ps.length := by omega
        have HO3 := Lib.hid (show Own w2.heap.size wr u4 ((keepL S.data.toList).map B) by have := HO.out; rw [List.take_length] at this; unfold keepL; rw [HPS.out]; exact this)
        have HK := Lib.hid (show cleanL S.data.toList = if joinL (keepL S.data.toList) = [] ∨ 4096 < (joinL (keepL S.data.toList)).length then none else some (joinL (keepL S.data.toList)) by
          unfold cleanL
          rw [HBad.out, if_neg (by decide), if_neg (by rw [HPS.out]; have := HN.out; rwa [List.take_length] at this)])
        have HJ := Lib.hid (keep_len S.data.toList)
        have HKl := Lib.hid (show (keepL S.data.toList).length ≤ 1000000 by
          unfold keepL; rw [HPS.out]; have := List.length_filter_le Keep ps; have := HLen.out; omega)
        clear HO HN
        go_wp2_with fail
        refine (join_own HO3.out (by have := HJ.out; have := HS.out; have e : S.data.toList.length = S.size := rfl; omega) HKl.out).mono ?_
        rintro x w6 ⟨rfl, hb6⟩
        have HB6 := Lib.hid (HO2.out.trans' (Only.of_below (HB.out.trans (hb6.mono HB.out.size)) _))
        clear hb6
        obtain ⟨j, hj⟩ : ∃ j, joinL (keepL S.data.toList) = j := ⟨_, rfl⟩
        rw [hj] at HK ⊢
        obtain ⟨J, hJ⟩ : ∃ J, B j = J := ⟨_, rfl⟩
        rw [hJ]
        have z1 : J.toList.isEmpty = decide (j = []) := by rw [← hJ, isEmpty_B]
        have z2 : J.size = j.length := by rw [← hJ, B_size]
        by_cases m1 : j = []
        · rw [decide_eq_true m1] at z1
          have HC := Lib.hid (clean_none (S := S) (by rw [HK.out, if_pos (Or.inl m1)]))
          clear hj hJ m1 z2
          go_wp2_with fail
          rw [Exit.noGoto_ret]
          go_ret2
          exact ⟨by rw [HC.out.1, HC.out.2]; rfl, HB6.out⟩
        rw [decide_eq_false m1] at z1
        by_cases m2 : 4096 < j.length
        · have z3 : decide ((J.size : Int) > 4096) = true := decide_eq_true (by omega)
          have z3' : decide (J.size > 4096) = true := decide_eq_true (by omega)
          have HC := Lib.hid (clean_none (S := S) (by rw [HK.out, if_pos (Or.inr m2)]))
          clear hj hJ m1 z2 m2
          go_wp2_with fail
          rw [Exit.noGoto_ret]
          go_ret2
          exact ⟨by rw [HC.out.1, HC.out.2]; rfl, HB6.out⟩
        · have z3 : decide ((J.size : Int) > 4096) = false := decide_eq_false (by omega)
          have z3' : decide (J.size > 4096) = false := decide_eq_false (by omega)
          have HC := Lib.hid (clean_some (S := S) (c := j) (by rw [HK.out, if_neg (by simp [m1, m2])]))
          have HJJ := Lib.hid hJ
          clear hj hJ m1 z2 m2
          go_wp2_with fail
          rw [Exit.noGoto_ret]
          go_ret2
          exact ⟨by rw [HC.out.1, HC.out.2, HJJ.out]; rfl, HB6.out⟩
end Go.Proofs.YtpghionmmlidnaaGreatDoor.Walks
