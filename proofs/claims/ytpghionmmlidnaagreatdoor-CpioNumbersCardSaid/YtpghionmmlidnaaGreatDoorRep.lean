/- Contracts of project.holds, project.Rep. -/
import Derived.Test.YtpghionmmlidnaaGreatDoorLst
namespace Go.Proofs.YtpghionmmlidnaaGreatDoor.Walks
open Go Go.RowKit Go.Proofs.YtpghionmmlidnaaGreatDoor.Aid Go.Proofs.YtpghionmmlidnaaGreatDoor.Pth Go.Proofs.YtpghionmmlidnaaGreatDoor.Own Go.Proofs.YtpghionmmlidnaaGreatDoorW.PrintWords

def trailer : Str := [84, 82, 65, 73, 76, 69, 82, 33, 33, 33]
def holdsL (E : Ent) (p fm : Int) : Bool :=
  if fm = 3 then !decide (E.path = trailer)
  else if fm = 1 then !decide (E.kind = 4) && (!decide (E.kind = 2) || decide (E.path.length ≤ 4095))
  else if fm = 5 then decide (E.kind = 1) && decide (p = 0)
  else if fm = 4 then decide (E.kind = 1) && decide (p = 0)
  else true
theorem dec_beq (a b : Int) : (a == b) = decide (a = b) := by
  by_cases h : a = b
  · rw [decide_eq_true h]; exact beq_iff_eq.mpr h
  · rw [decide_eq_false h]; exact beq_eq_false_iff_ne.mpr h
theorem dec_bne (a b : Int) : (a != b) = !decide (a = b) := by rw [bne, dec_beq]
set_option maxRecDepth 100000 in
set_option maxHeartbeats 4000000 in
theorem holds_any (E : Ent) (A : Option Addr) (c : Nat) (p fm : Int) (w : World) (hE : EOk E) : Calls Tryz.prog 47 #[eval E A c, .int .i64 p, .int .i64 fm] w (BoolPost (holdsL E p fm) w) := by
  have HO := Lib.hid ((Only.refl (fun _ => False) w).alloc (.cells (erow E A c) 47))
  have hb := alloc_new w (.cells (erow E A c) 47)
  obtain ⟨g1, hg1⟩ : ∃ g1, w.heap.size = g1 := ⟨_, rfl⟩
  obtain ⟨W, hW⟩ : ∃ W, w.alloc (.cells (erow E A c) 47) = W := ⟨_, rfl⟩
  rw [hW, hg1] at hb
  rw [hW] at HO
  have HGW := Lib.hid (And.intro hg1 hW)
  have c0 : W.cell? ⟨g1, 0, none⟩ = some (.string (B E.path)) := Joins.cell_of_block hb 0
  have c1 : W.cell? ⟨g1, 1, none⟩ = some (.int .i64 E.kind) := Joins.cell_of_block hb 1
  have hp := hE.path
  have hn1 : ((B E.path).toList == ([84, 82, 65, 73, 76, 69, 82, 33, 33, 33] : List UInt8)) = decide (E.path = trailer) := by rw [toList_B, beq_decide]; rfl
  obtain ⟨tr, htr⟩ : ∃ tr : Bool, decide (E.path = trailer) = tr := ⟨_, rfl⟩
  rw [htr] at hn1
  obtain ⟨SB, hSB⟩ : ∃ SB, B E.path = SB := ⟨_, rfl⟩
  have hsz : SB.size = E.path.length := by rw [← hSB, B_size]
  rw [hSB] at c0 hn1
  obtain ⟨tl, htl⟩ : ∃ tl : Bool, decide (E.path.length ≤ 4095) = tl := ⟨_, rfl⟩
  have g2 : decide ((SB.size : Int) ≤ 4095) = tl := by rw [← htl]; exact decide_eq_decide.2 (by omega)
  have g2' : decide (SB.size ≤ 4095) = tl := by rw [← htl]; exact decide_eq_decide.2 (by omega)
  have hs5 : SB.size ≤ 500000 := by omega
  have k4 := dec_bne E.kind 4
  have k2 := dec_bne E.kind 2
  have k1 := dec_beq E.kind 1
  have kp := dec_beq p 0
  have HH := Lib.hid (show holdsL E p fm = if fm = 3 then !tr else if fm = 1 then !decide (E.kind = 4) && (!decide (E.kind = 2) || tl) else if fm = 5 then decide (E.kind = 1) && decide (p = 0) else if fm = 4 then decide (E.kind = 1) && decide (p = 0) else true by unfold holdsL; rw [htr, htl])
  obtain ⟨b4, hb4⟩ : ∃ b4 : Bool, decide (E.kind = 4) = b4 := ⟨_, rfl⟩
  obtain ⟨b2, hb2⟩ : ∃ b2 : Bool, decide (E.kind = 2) = b2 := ⟨_, rfl⟩
  obtain ⟨b1, hb1⟩ : ∃ b1 : Bool, decide (E.kind = 1) = b1 := ⟨_, rfl⟩
  obtain ⟨bp, hbp⟩ : ∃ bp : Bool, decide (p = 0) = bp := ⟨_, rfl⟩
  rw [hb4] at k4 HH
  rw [hb2] at k2 HH
  rw [hb1] at k1 HH
  rw [hbp] at kp HH
  clear hg1 hW hb hE hp htr hSB hsz htl hb4 hb2 hb1 hbp
  go_enter Tryz.func47, Tryz.ntmps47
  go_upto_region 1 with (fail)
  change Code.wp Tryz.prog _ _ _ (w.alloc (.cells (erow E A c) 47))
  rw [HGW.out.2, HGW.out.1]
  by_cases q3 : fm = 3
  · have t3 : (fm == 3) = true := beq_iff_eq.mpr q3
    have HR := Lib.hid (HH.out.trans (if_pos q3))
    clear q3 HH
    go_wp2_with fail
    go_ret
    exact ⟨by rw [HR.out]; cases tr <;> rfl, HO.out⟩
  have t3 : (fm == 3) = false := beq_eq_false_iff_ne.mpr q3
  by_cases q1 : fm = 1
  · have t1 : (fm == 1) = true := beq_iff_eq.mpr q1
    have HR := Lib.hid (HH.out.trans ((if_neg q3).trans (if_pos q1)))
    clear q3 q1 HH
    cases b4 <;> cases b2 <;> cases tl
    all_goals (
      go_wp2_with fail
      go_ret
      exact ⟨by rw [HR.out]; rfl, HO.out⟩)
  have t1 : (fm == 1) = false := beq_eq_false_iff_ne.mpr q1
  by_cases q5 : fm = 5
  · have t5 : (fm == 5) = true := beq_iff_eq.mpr q5
    have HR := Lib.hid (HH.out.trans ((if_neg q3).trans ((if_neg q1).trans (if_pos q5))))
    clear q3 q1 q5 HH
    cases b1 <;> cases bp
    all_goals (
      go_wp2_with fail
      go_ret
      exact ⟨by rw [HR.out]; rfl, HO.out⟩)
  have t5 : (fm == 5) = false := beq_eq_false_iff_ne.mpr q5
  by_cases q4 : fm = 4
  · have t4 : (fm == 4) = true := beq_iff_eq.mpr q4
    have HR := Lib.hid (HH.out.trans ((if_neg q3).trans ((if_neg q1).trans ((if_neg q5).trans (if_pos q4)))))
    clear q3 q1 q5 q4 HH
    cases b1 <;> cases bp
    all_goals (
      go_wp2_with fail
      go_ret
      exact ⟨by rw [HR.out]; rfl, HO.out⟩)
  have t4 : (fm == 4) = false := beq_eq_false_iff_ne.mpr q4
  have HR := Lib.hid (HH.out.trans ((if_neg q3).trans ((if_neg q1).trans ((if_neg q5).trans (if_neg q4)))))
  clear q3 q1 q5 q4 HH
  go_wp2_with fail
  go_ret
  exact ⟨by rw [HR.out]; rfl, HO.out⟩
def repFrom (l : List Ent) (fm : Int) : Int := match (List.range l.length).find? (fun i => !(holdsL (l.getD i e0) (i : Int) fm)) with
  | none => if l.length = 0 ∧ (fm = 4 ∨ fm = 5) then 0 else -1
  | some i => (i : Int)
def repL (l : List Ent) (fm : Int) : Int := if fm < 1 ∨ fm > 5 then 0 else if listL l ≥ 0 then listL l else repFrom l fm
theorem rep_stop {l : List Ent} {fm : Int} {i : Nat} (hi : i < l.length) (hk : holdsL (l.getD i e0) (i : Int) fm = false) (hn : ∀ j, j < i → holdsL (l.getD j e0) (j : Int) fm = true) : repFrom l fm = (i : Int) := by
  have e : (List.range l.length).find? (fun i => !(holdsL (l.getD i e0) (i : Int) fm)) = some i := List.find?_range_eq_some.2 ⟨by rw [hk]; rfl, List.mem_range.2 hi, fun j hj => by rw [hn j hj]; rfl⟩
  unfold repFrom
  rw [e]
theorem rep_all {l : List Ent} {fm : Int} (hn : ∀ j, j < l.length → holdsL (l.getD j e0) (j : Int) fm = true) : repFrom l fm = if l.length = 0 ∧ (fm = 4 ∨ fm = 5) then 0 else -1 := by
  have e : (List.range l.length).find? (fun i => !(holdsL (l.getD i e0) (i : Int) fm)) = none := List.find?_eq_none.2 (fun j hj => by rw [hn j (List.mem_range.1 hj)]; exact Bool.false_ne_true)
  unfold repFrom
  rw [e]
set_option maxRecDepth 100000 in
set_option maxHeartbeats 4000000 in
theorem rep_any {w : World} {A : Option Addr} {l : List Ent} {n c : Nat} {M : Nat → Option Addr × Nat} (fm : Int) (hn : l.length = n) (hl : n ≤ 100000) (hR : RdE w A l M) (hE : EsOk l) (hm : MaxLen w) :
    Calls Tryz.prog 23 #[.slice A n c, .int .i64 fm] w fun x w' => x = .returned (.int .i64 (repL l fm)) ∧ Only (fun _ => False) w w' := by
  by_cases f1 : fm < 1
  · have d1 : decide (fm < 1) = true := decide_eq_true f1
    have HR0 := Lib.hid (show repL l fm = 0 by unfold repL; rw [if_pos (Or.inl f1)])
    clear f1
    go_enter Tryz.func23, Tryz.ntmps23
    go_wp2_with fail
    go_ret
    exact ⟨by rw [HR0.out]; rfl, Only.refl _ _⟩
  have d1 : decide (fm < 1) = false := decide_eq_false f1
  by_cases f2 : fm > 5
  · have d2 : decide (fm > 5) = true := decide_eq_true f2
    have HR0 := Lib.hid (show repL l fm = 0 by unfold repL; rw [if_pos (Or.inr f2)])
    clear f1 f2
    go_enter Tryz.func23, Tryz.ntmps23
    go_wp2_with fail
    go_ret
    exact ⟨by rw [HR0.out]; rfl, Only.refl _ _⟩
  have d2 : decide (fm > 5) = false := decide_eq_false f2
  have HL := Lib.hid (list_any (c := c) hn hl hR hE hm)
  have HT := Lib.hid (show repL l fm = if listL l ≥ 0 then listL l else repFrom l fm by unfold repL; rw [if_neg (by omega)])
  obtain ⟨k, hk⟩ : ∃ k, listL l = k := ⟨_, rfl⟩
  rw [hk] at HL HT
  clear hk f1 f2
  by_cases f3 : k ≥ 0
  · have d3 : decide (k ≥ 0) = true := decide_eq_true f3
    have HR0 := Lib.hid (HT.out.trans (if_pos f3))
    clear f3 hR hE hm hn HT
    go_enter Tryz.func23, Tryz.ntmps23
    go_wp2_with fail
    refine HL.out.mono ?_
    rintro x w1 ⟨rfl, h1⟩
    have H1 := Lib.hid h1
    clear h1
    go_wp2_with fail
    go_ret
    exact ⟨by rw [HR0.out]; rfl, H1.out⟩
  have d3 : decide (k ≥ 0) = false := decide_eq_false f3
  have HR1 := Lib.hid (HT.out.trans (if_neg f3))
  have HN := Lib.hid hn
  have HR := Lib.hid hR
  have HE := Lib.hid hE
  have b1 : n ≤ 100000 := hl
  clear f3 hn hl hR hE hm HT
  go_enter Tryz.func23, Tryz.ntmps23
  go_wp2_with fail
  refine HL.out.mono ?_
  rintro x w1 ⟨rfl, h1⟩
  have H1 := Lib.hid h1
  clear h1 HL
  go_wp2_with fail
  go_loopw [21] (fun v21 u => ∃ i : Nat, v21 = .int .i64 (i : Int) ∧ i ≤ n ∧ Hid (Only (fun _ => False) w u) ∧ Hid (∀ j, j < i → holdsL (l.getD j e0) (j : Int) fm = true)) (fun i _ => n - (intOf i).toNat)
  case atStart => exact ⟨0, rfl, by omega, H1, Lib.hid (fun j h => absurd h (by omega))⟩
  case round =>
    clear H1
    obtain ⟨i, rfl, hi, HU, HAll⟩ := hrel
    by_cases ci : i < n
    · have e1 : decide ((i : Int) < (n : Int)) = true := decide_eq_true (by omega)
      have e1' : decide (i < n) = true := decide_eq_true ci
      have e2 : (i : Int) < (n : Int) := by omega
      have hil : i < l.length := by rw [HN.out]; exact ci
      obtain ⟨E, hE⟩ : ∃ E, l.getD i e0 = E := ⟨_, rfl⟩
      have hE2 : l[i]? = some E := by
        rw [← hE, List.getD_eq_getElem?_getD, List.getElem?_eq_getElem hil]; rfl
      obtain ⟨hAt, ad, hA, hcell⟩ := (HR.out.only HU.out) i E hE2
      obtain ⟨hEo, _, _⟩ := HE.out E (List.mem_of_getElem? hE2)
      subst hA
      obtain ⟨B1, hB1⟩ : ∃ B1, (M i).1 = B1 := ⟨_, rfl⟩
      obtain ⟨c1, hc1⟩ : ∃ c1, (M i).2 = c1 := ⟨_, rfl⟩
      rw [hB1, hc1] at hcell
      have HC := Lib.hid (show ∀ j v, (erow E B1 c1)[j]? = some v → wr.cell? ((ad.add (i * 8)).add j) = some v from fun j v h => by rw [add_add]; exact hcell j v h)
      have HH := Lib.hid (fun u => holds_any E B1 c1 (i : Int) fm u hEo)
      have HS := Lib.hid (fun (h : holdsL E (i : Int) fm = true) (j : Nat) (hj : j < i + 1) => show holdsL (l.getD j e0) (j : Int) fm = true from by
        by_cases e : j = i
        · rw [e, hE]; exact h
        · exact HAll.out j (by omega))
      have HBad := Lib.hid (fun (h : holdsL E (i : Int) fm = false) => rep_stop hil (by rw [hE]; exact h) HAll.out)
      obtain ⟨hh, hhh⟩ : ∃ hh, holdsL E (i : Int) fm = hh := ⟨_, rfl⟩
      rw [hhh] at HH HS HBad
      clear hE hE2 hAt hcell hEo hB1 hc1 hil HAll hhh
      go_wp2_with (first
        | ((with_reducible refine gate 25 rfl ?_); refine load_entA rfl _ rfl rfl HC.out ?_)
        | ((with_reducible refine gate_store 47 rfl ?_); refine store_newE rfl rfl E B1 c1 _ _ rfl rfl rfl ?_; intro w3 hb3 ho3)
        | (with_reducible refine gate 26 rfl ?_; refine load_ent rfl _ rfl rfl hb3 ?_))
      refine (HH.out _).mono ?_
      rintro x w4 ⟨rfl, h4⟩
      replace HU := Lib.hid ((HU.out.trans' ho3).trans' h4)
      clear h4 ho3 hb3 HC HR
      cases hh with
      | true =>
        have HGo := Lib.hid (HS.out rfl)
        clear HS HBad
        go_wp2_with fail
        exact ⟨⟨i + 1, by simp, by omega, HU, HGo⟩, by simp [intOf]; omega⟩
      | false =>
        have HR0 := Lib.hid (HR1.out.trans (HBad.out rfl))
        clear HS HBad
        go_wp2_with fail
        go_ret
        exact ⟨by rw [HR0.out]; rfl, HU.out⟩
    · have e1 : decide ((i : Int) < (n : Int)) = false := decide_eq_false (by omega)
      have e1' : decide (i < n) = false := decide_eq_false ci
      obtain rfl : i = n := by omega
      have HR2 := Lib.hid (HR1.out.trans (rep_all (fun j hj => HAll.out j (by rw [← HN.out]; exact hj))))
      rw [HN.out] at HR2
      have t4 := dec_beq fm 4
      have t5 := dec_beq fm 5
      have tn : ((i : Int) == 0) = decide (i = 0) := by rw [dec_beq]; exact decide_eq_decide.2 (by omega)
      have HR3 := Lib.hid (show repL l fm = if (decide (i = 0) && (decide (fm = 4) || decide (fm = 5))) = true then 0 else -1 from HR2.out.trans (by simp only [Bool.and_eq_true, Bool.or_eq_true, decide_eq_true_eq]))
      obtain ⟨b0, hb0⟩ : ∃ b0 : Bool, decide (i = 0) = b0 := ⟨_, rfl⟩
      obtain ⟨b4, hb4⟩ : ∃ b4 : Bool, decide (fm = 4) = b4 := ⟨_, rfl⟩
      obtain ⟨b5, hb5⟩ : ∃ b5 : Bool, decide (fm = 5) = b5 := ⟨_, rfl⟩
      rw [hb0] at tn HR3
      rw [hb4] at t4 HR3
      rw [hb5] at t5 HR3
      clear hb0 hb4 hb5 HR2 HR1
      cases b0 <;> cases b4 <;> cases b5
      all_goals (
        go_wp2_with fail
        go_ret
        exact ⟨by rw [HR3.out]; rfl, HU.out⟩)
end Go.Proofs.YtpghionmmlidnaaGreatDoor.Walks
