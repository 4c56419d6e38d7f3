/- Contract of the reference's Rep. -/
import Derived.Test.YtdkfemmjoabbcaaDoorRMay
import Derived.Test.YtdkfemmjoabbcaaDoorRep
namespace Go.Proofs.YtdkfemmjoabbcaaDoor.Walks
open Go Go.RowKit Go.Proofs.YtdkfemmjoabbcaaDoor.Aid Go.Proofs.YtdkfemmjoabbcaaDoor.Pth Go.Proofs.YtdkfemmjoabbcaaDoor.Own Go.Proofs.YtdkfemmjoabbcaaDoorW.PrintWords

set_option maxRecDepth 100000 in
set_option maxHeartbeats 4000000 in
theorem rrep_any {w : World} {A : Option Addr} {l : List Ent} {n c : Nat} {M : Nat → Option Addr × Nat} (fm : Int) (hn : l.length = n) (hl : n ≤ 100000) (hc : n ≤ c) (hR : RdE w A l M) (hE : EsOk l) :
    Calls Tryd.prog 18 #[.slice A n c, .int .i64 fm] w fun x w' => x = .returned (.int .i64 (repL l fm)) ∧ Only (fun _ => False) w w' := by
  by_cases f1 : fm < 1
  · have d1 : decide (fm < 1) = true := decide_eq_true f1
    have HR0 := Lib.hid (show repL l fm = 0 by unfold repL; rw [if_pos (Or.inl f1)])
    clear f1
    go_enter Tryd.func18, Tryd.ntmps18
    go_wp2_with fail
    go_ret
    exact ⟨by rw [HR0.out]; rfl, Only.refl _ _⟩
  have d1 : decide (fm < 1) = false := decide_eq_false f1
  by_cases f2 : fm > 5
  · have d2 : decide (fm > 5) = true := decide_eq_true f2
    have HR0 := Lib.hid (show repL l fm = 0 by unfold repL; rw [if_pos (Or.inr f2)])
    clear f1 f2
    go_enter Tryd.func18, Tryd.ntmps18
    go_wp2_with fail
    go_ret
    exact ⟨by rw [HR0.out]; rfl, Only.refl _ _⟩
  have d2 : decide (fm > 5) = false := decide_eq_false f2
  have HL := Lib.hid (rlist_any hn hl hc hR hE)
  have HT := Lib.hid (show repL l fm = if listL l ≥ 0 then listL l else repFrom l fm by unfold repL; rw [if_neg (by omega)])
  have HFm := Lib.hid (show fm = 1 ∨ fm = 2 ∨ fm = 3 ∨ fm = 4 ∨ fm = 5 by omega)
  obtain ⟨k, hk⟩ : ∃ k, listL l = k := ⟨_, rfl⟩
  rw [hk] at HL HT
  clear hk f1 f2
  by_cases f3 : k ≥ 0
  · have d3 : decide (k ≥ 0) = true := decide_eq_true f3
    have HR0 := Lib.hid (HT.out.trans (if_pos f3))
    clear f3 hR hE hn HT
    go_enter Tryd.func18, Tryd.ntmps18
    go_wp2_with fail
    refine HL.out.mono ?_
    rintro x w1 ⟨rfl, h1⟩
    have H1 := Lib.hid h1
    clear h1
    go_wp2_with fail
    go_ret
    exact ⟨by rw [HR0.out]; rfl, H1.out⟩
  have d3 : decide (k ≥ 0) = false := decide_eq_false f3
  have HR1 := Lib.hid (HT.out.trans (if_neg f3))
  have HN := Lib.hid hn
  have HR := Lib.hid hR
  have HE := Lib.hid hE
  have b1 : n ≤ 100000 := hl
  clear f3 hn hl hR hE HT hc
  go_enter Tryd.func18, Tryd.ntmps18
  go_wp2_with fail
  refine HL.out.mono ?_
  rintro x w1 ⟨rfl, h1⟩
  have H1 := Lib.hid h1
  clear h1 HL
  go_wp2_with fail
  go_loopw [6] (fun v6 u => ∃ i : Nat, v6 = .int .i64 (i : Int) ∧ i ≤ n ∧ Hid (Only (fun _ => False) w u) ∧ Hid (∀ j, j < i → holdsL (l.getD j e0) (j : Int) fm = true)) (fun i _ => n - (intOf i).toNat)
  case atStart => exact ⟨0, rfl, by omega, H1, Lib.hid (fun j h => absurd h (by omega))⟩
  case round =>
    clear H1
    obtain ⟨i, rfl, hi, HU, HAll⟩ := hrel
    by_cases ci : i < n
    · have e1 : decide ((i : Int) < (n : Int)) = true := decide_eq_true (by omega)
      have e1' : decide (i < n) = true := decide_eq_true ci
      have e2 : (i : Int) < (n : Int) := by omega
      have hil : i < l.length := by rw [HN.out]; exact ci
      obtain ⟨ad, rfl, hat, hen⟩ := (HR.out.only HU.out).at hil
      have hEm : l.getD i e0 ∈ l := by rw [List.getD_eq_getElem?_getD, List.getElem?_eq_getElem hil]; exact List.getElem_mem hil
      have hEo := (HE.out _ hEm).1
      have HS := Lib.hid (fun (h : holdsL (l.getD i e0) (i : Int) fm = true) (j : Nat) (hj : j < i + 1) => show holdsL (l.getD j e0) (j : Int) fm = true from by
        by_cases e : j = i
        · rw [e]; exact h
        · exact HAll.out j (by omega))
      have HBad := Lib.hid (fun (h : holdsL (l.getD i e0) (i : Int) fm = false) => HR1.out.trans (rep_stop hil h HAll.out))
      obtain ⟨E, hE⟩ : ∃ E, l.getD i e0 = E := ⟨_, rfl⟩
      obtain ⟨B1, hB1⟩ : ∃ B1, (M i).1 = B1 := ⟨_, rfl⟩
      obtain ⟨c1, hc1⟩ : ∃ c1, (M i).2 = c1 := ⟨_, rfl⟩
      rw [hE, hB1, hc1] at hat
      rw [hE] at HS HBad hEo
      have HC := Lib.hid hat
      have hp := hEo.path
      have hn1 : ((B E.path).toList == ([84, 82, 65, 73, 76, 69, 82, 33, 33, 33] : List UInt8)) = decide (E.path = trailer) := by rw [toList_B, beq_decide]; rfl
      obtain ⟨tr, htr⟩ : ∃ tr : Bool, decide (E.path = trailer) = tr := ⟨_, rfl⟩
      rw [htr] at hn1
      obtain ⟨tl, htl⟩ : ∃ tl : Bool, decide (E.path.length ≤ 4095) = tl := ⟨_, rfl⟩
      have hsz0 : (B E.path).size = E.path.length := B_size _
      have HHo := Lib.hid (show holdsL E (i : Int) fm = if fm = 3 then !tr else if fm = 1 then !decide (E.kind = 4) && (!decide (E.kind = 2) || tl) else if fm = 5 then decide (E.kind = 1) && decide ((i : Int) = 0) else if fm = 4 then decide (E.kind = 1) && decide ((i : Int) = 0) else true by unfold holdsL; rw [htr, htl])
      clear hE hB1 hc1 hat hen hEm HAll HR HR1 hEo hil
      go_upto_region 10 with (first
        | ((with_reducible refine gate 28 rfl ?_); refine load_entA rfl _ rfl rfl (show ∀ j v, (erow E B1 c1)[j]? = some v → wr.cell? ((ad.add (i * 8)).add j) = some v from HC.out) ?_)
        | ((with_reducible refine gate_store 25 rfl ?_); refine store_newE rfl rfl E B1 c1 _ _ rfl rfl rfl ?_; intro w3 hb3 ho3))
      obtain ⟨g, hg⟩ : ∃ g, wr.heap.size = g := ⟨_, rfl⟩
      rw [hg] at hb3 ⊢
      have x0 : w3.cell? ⟨g, 0, none⟩ = some (.string (B E.path)) := Joins.cell_of_block hb3 0
      have x1 : w3.cell? ⟨g, 1, none⟩ = some (.int .i64 E.kind) := Joins.cell_of_block hb3 1
      obtain ⟨SB, hSB⟩ : ∃ SB, B E.path = SB := ⟨_, rfl⟩
      rw [hSB] at x0 hn1 hsz0
      have t2 : decide ((SB.size : Int) > 4095) = !tl := by rw [← htl, ← decide_not]; exact decide_eq_decide.2 (by omega)
      have t2' : decide (4095 < SB.size) = !tl := by rw [← htl, ← decide_not]; exact decide_eq_decide.2 (by omega)
      have hs5 : SB.size ≤ 500000 := by omega
      replace HU := Lib.hid (HU.out.trans' ho3)
      have g4 := int_eqd E.kind 4
      have g2 := int_eqd E.kind 2
      have g1 : (E.kind != 1) = !decide (E.kind = 1) := dec_bne E.kind 1
      have gp : decide ((i : Int) > 0) = !decide ((i : Int) = 0) := by rw [← decide_not]; exact decide_eq_decide.2 (by omega)
      have gp' : decide (0 < i) = !decide ((i : Int) = 0) := by rw [← decide_not]; exact decide_eq_decide.2 (by omega)
      obtain ⟨b4, hb4⟩ : ∃ b4 : Bool, decide (E.kind = 4) = b4 := ⟨_, rfl⟩
      obtain ⟨b2, hb2⟩ : ∃ b2 : Bool, decide (E.kind = 2) = b2 := ⟨_, rfl⟩
      obtain ⟨b1', hb1'⟩ : ∃ b1 : Bool, decide (E.kind = 1) = b1 := ⟨_, rfl⟩
      obtain ⟨bp, hbp⟩ : ∃ bp : Bool, decide ((i : Int) = 0) = bp := ⟨_, rfl⟩
      rw [hb4] at g4 HHo
      rw [hb2] at g2 HHo
      rw [hb1'] at g1 HHo
      rw [hbp] at gp gp' HHo
      clear hb3 ho3 htr htl hSB hb4 hb2 hb1' hbp hsz0 hp HC hg
      rcases HFm.out with rfl | rfl | rfl | rfl | rfl
      · rcases wayT b4 (way b2 (ways tl)) with rfl | ⟨rfl, rfl | ⟨rfl, rfl | rfl⟩⟩
        all_goals
          have HHo2 := HHo.out
          go_wp2_with fail
          first
            | exact ⟨⟨i + 1, by simp, by omega, HU, Lib.hid (HS.out HHo2)⟩, by simp [intOf]; omega⟩
            | (go_ret; exact ⟨by rw [HBad.out HHo2]; rfl, HU.out⟩)
      · have HHo2 := Lib.hid HHo.out
        go_wp2_with fail
        exact ⟨⟨i + 1, by simp, by omega, HU, Lib.hid (HS.out HHo2.out)⟩, by simp [intOf]; omega⟩
      · cases tr
        all_goals
          have HHo2 := Lib.hid HHo.out
          go_wp2_with fail
          first
            | exact ⟨⟨i + 1, by simp, by omega, HU, Lib.hid (HS.out HHo2.out)⟩, by simp [intOf]; omega⟩
            | (go_ret; exact ⟨by rw [HBad.out HHo2.out]; rfl, HU.out⟩)
      · rcases way b1' (ways bp) with rfl | ⟨rfl, rfl | rfl⟩
        all_goals
          have HHo2 := Lib.hid HHo.out
          go_wp2_with fail
          first
            | exact ⟨⟨i + 1, by simp, by omega, HU, Lib.hid (HS.out HHo2.out)⟩, by simp [intOf]; omega⟩
            | (go_ret; exact ⟨by rw [HBad.out HHo2.out]; rfl, HU.out⟩)
      · rcases way b1' (ways bp) with rfl | ⟨rfl, rfl | rfl⟩
        all_goals
          have HHo2 := Lib.hid HHo.out
          go_wp2_with fail
          first
            | exact ⟨⟨i + 1, by simp, by omega, HU, Lib.hid (HS.out HHo2.out)⟩, by simp [intOf]; omega⟩
            | (go_ret; exact ⟨by rw [HBad.out HHo2.out]; rfl, HU.out⟩)
    · have e1 : decide ((i : Int) < (n : Int)) = false := decide_eq_false (by omega)
      have e1' : decide (i < n) = false := decide_eq_false ci
      obtain rfl : i = n := by omega
      have HR2 := Lib.hid (HR1.out.trans (rep_all (fun j hj => HAll.out j (by rw [← HN.out]; exact hj))))
      rw [HN.out] at HR2
      have tn : ((i : Int) == 0) = decide (i = 0) := by rw [dec_beq]; exact decide_eq_decide.2 (by omega)
      obtain ⟨b0, hb0⟩ : ∃ b0 : Bool, decide (i = 0) = b0 := ⟨_, rfl⟩
      rw [hb0] at tn
      have HR3 := Lib.hid (show repL l fm = if (b0 && (decide (fm = 4) || decide (fm = 5))) = true then 0 else -1 from HR2.out.trans (by rw [← hb0]; simp only [Bool.and_eq_true, Bool.or_eq_true, decide_eq_true_eq]))
      clear hb0 HR2 HR1
      rcases HFm.out with rfl | rfl | rfl | rfl | rfl <;> cases b0
      all_goals (
        replace HR3 := Lib.hid (show repL l _ = _ from HR3.out)
        go_wp2_with fail
        go_ret
        exact ⟨by rw [HR3.out]; rfl, HU.out⟩)
end Go.Proofs.YtdkfemmjoabbcaaDoor.Walks
