/- Contracts of entry.id, entry.May. -/
import Derived.Test.YtpghionmmlidnaaGreatDoorEnt
namespace Go.Proofs.YtpghionmmlidnaaGreatDoor.Walks
open Go Go.RowKit Go.Proofs.YtpghionmmlidnaaGreatDoor.Aid Go.Proofs.YtpghionmmlidnaaGreatDoor.Pth Go.Proofs.YtpghionmmlidnaaGreatDoor.Own Go.Proofs.YtpghionmmlidnaaGreatDoorW.PrintWords

def idB (n : Int) : Bool := decide (0 ≤ n) && decide (n ≤ 2147483647)
theorem id_any (n : Int) (w : World) : Calls Tryz.prog 99 #[.int .i64 n] w fun x w' => x = .returned (.bool (idB n)) ∧ w = w' := by
  by_cases c1 : 0 ≤ n
  · have d1 : decide (n ≥ 0) = true := decide_eq_true c1
    have HR := Lib.hid (show idB n = decide (n ≤ 2147483647) by unfold idB; rw [decide_eq_true c1, Bool.true_and])
    clear c1
    go_enter Tryz.func99, Tryz.ntmps99
    go_wp2_with fail
    go_ret
    exact ⟨by rw [HR.out]; rfl, rfl⟩
  · have d1 : decide (n ≥ 0) = false := decide_eq_false c1
    have HR := Lib.hid (show idB n = false by unfold idB; rw [decide_eq_false c1, Bool.false_and])
    clear c1
    go_enter Tryz.func99, Tryz.ntmps99
    go_wp2_with fail
    go_ret
    exact ⟨by rw [HR.out]; rfl, rfl⟩
def noZ (l : Str) : Bool := decide ((0 : UInt8) ∉ l)
theorem index_noZ (l : Str) : decide (Lib.indexByte l 0 < 0) = noZ l := by
  unfold noZ
  have h1 := Lib.indexByte_ge l 0
  have h2 := indexByte_none l 0
  exact decide_eq_decide.mpr ⟨fun h => h2.1 (by omega), fun h => by have := h2.2 h; omega⟩
def headE (E : Ent) : Bool := rightL E.path && (decide (0 ≤ E.mode) && (decide (E.mode ≤ 4095) && (idB E.uid && idB E.gid)))
def bodyE (E : Ent) : Bool :=
  if E.kind = 1 then decide (E.target = []) && decide (E.data.length ≤ 1073741824)
  else if E.kind = 2 then decide (E.target = []) && decide (E.data.length = 0)
  else if E.kind = 3 then decide (E.target ≠ []) && (decide (E.target.length ≤ 4096) && (noZ E.target && decide (E.data.length = 0)))
  else if E.kind = 4 then rightL E.target && decide (E.data.length = 0)
  else false
def mayL (E : Ent) : Bool := headE E && bodyE E
/-- Sizes that any machine holds, and more. -/
structure EOk (E : Ent) : Prop where
  path : E.path.length ≤ 500000
  target : E.target.length ≤ 500000
  data : E.data.length ≤ 1000000
set_option maxRecDepth 100000 in
set_option maxHeartbeats 4000000 in
theorem may_any (E : Ent) (A : Option Addr) (c : Nat) (w : World) (hE : EOk E) (hm : MaxLen w) : Calls Tryz.prog 83 #[eval E A c] w (BoolPost (mayL E) w) := by
  have HO := Lib.hid ((Only.refl (fun _ => False) w).alloc (.cells (erow E A c) 47))
  have hb := alloc_new w (.cells (erow E A c) 47)
  obtain ⟨g1, hg1⟩ : ∃ g1, w.heap.size = g1 := ⟨_, rfl⟩
  obtain ⟨W, hW⟩ : ∃ W, w.alloc (.cells (erow E A c) 47) = W := ⟨_, rfl⟩
  rw [hW, hg1] at hb
  rw [hW] at HO
  have HGW := Lib.hid (And.intro hg1 hW)
  have HMW := Lib.hid (hm.only HO.out)
  have HB := Lib.hid hb
  have c0 : W.cell? ⟨g1, 0, none⟩ = some (.string (B E.path)) := Joins.cell_of_block hb 0
  have c2 : W.cell? ⟨g1, 2, none⟩ = some (.int .i64 E.mode) := Joins.cell_of_block hb 2
  have c3 : W.cell? ⟨g1, 3, none⟩ = some (.int .i64 E.uid) := Joins.cell_of_block hb 3
  have c4 : W.cell? ⟨g1, 4, none⟩ = some (.int .i64 E.gid) := Joins.cell_of_block hb 4
  have HR := Lib.hid (fun u (h : MaxLen u) => right_any (B E.path) u (by rw [B_size]; exact hE.path) h)
  rw [B_data] at HR
  have HT := Lib.hid (show mayL E = (rightL E.path && (decide (0 ≤ E.mode) && (decide (E.mode ≤ 4095) && (idB E.uid && idB E.gid))) && bodyE E) from rfl)
  have HI1 := Lib.hid (fun u => id_any E.uid u)
  have HI2 := Lib.hid (fun u => id_any E.gid u)
  obtain ⟨r1, hr1⟩ : ∃ r1, rightL E.path = r1 := ⟨_, rfl⟩
  obtain ⟨i1, hi1⟩ : ∃ i1, idB E.uid = i1 := ⟨_, rfl⟩
  obtain ⟨i2, hi2⟩ : ∃ i2, idB E.gid = i2 := ⟨_, rfl⟩
  rw [hr1] at HR HT
  rw [hi1] at HI1 HT
  rw [hi2] at HI2 HT
  have HE := Lib.hid hE
  clear hr1 hi1 hi2 hg1 hW hb hm hE
  go_enter Tryz.func83, Tryz.ntmps83
  go_upto_region 1 with (fail)
  change Code.wp Tryz.prog _ _ _ (w.alloc (.cells (erow E A c) 47))
  rw [HGW.out.2, HGW.out.1]
  have HRW := Lib.hid (HR.out W HMW.out)
  cases r1 with
  | false =>
    have HR0 := Lib.hid (show mayL E = false from HT.out.trans (by simp))
    go_wp2_with (go_at_call 53; refine HRW.out.mono ?_; rintro x w1 ⟨rfl, h1⟩; have H1 := Lib.hid h1; clear h1)
    go_ret
    exact ⟨by rw [HR0.out]; rfl, HO.out.trans' H1.out⟩
  | true =>
    go_wp2_with fail
    refine HRW.out.mono ?_
    rintro x w1 ⟨rfl, h1⟩
    replace HO := Lib.hid (HO.out.trans' h1)
    have HM1 := Lib.hid (HMW.out.only h1)
    have HB1 := Lib.hid (h1.keeps HB.out id)
    replace c2 : w1.cell? ⟨g1, 2, none⟩ = some (.int .i64 E.mode) := Joins.cell_of_block HB1.out 2
    replace c3 : w1.cell? ⟨g1, 3, none⟩ = some (.int .i64 E.uid) := Joins.cell_of_block HB1.out 3
    replace c4 : w1.cell? ⟨g1, 4, none⟩ = some (.int .i64 E.gid) := Joins.cell_of_block HB1.out 4
    have c1 : w1.cell? ⟨g1, 1, none⟩ = some (.int .i64 E.kind) := Joins.cell_of_block HB1.out 1
    have c6 : w1.cell? ⟨g1, 6, none⟩ = some (.string (B E.target)) := Joins.cell_of_block HB1.out 6
    have c7 : w1.cell? ⟨g1, 7, none⟩ = some (.slice A E.data.length c) := Joins.cell_of_block HB1.out 7
    clear HR HRW HB HMW HGW c0 h1
    clear W
    by_cases m0 : 0 ≤ E.mode
    · have e0 : decide (E.mode < 0) = false := decide_eq_false (by omega)
      by_cases m1 : E.mode ≤ 4095
      · have e1 : decide (E.mode > 4095) = false := decide_eq_false (by omega)
        cases i1 with
        | true =>
          cases i2 with
          | true =>
            have HT2 := Lib.hid (show mayL E = bodyE E from HT.out.trans (by rw [decide_eq_true m0, decide_eq_true m1]; rfl))
            clear m0 m1 HT
            obtain ⟨SB, hSB⟩ : ∃ SB, B E.target = SB := ⟨_, rfl⟩
            have HSZ := Lib.hid (show SB.size = E.target.length by rw [← hSB, B_size])
            have hn1 : (SB.toList.isEmpty) = decide (E.target = []) := by rw [← hSB, isEmpty_B]
            have HSB := Lib.hid hSB
            rw [hSB] at c6
            clear hSB
            have HDL := Lib.hid (show E.data.length ≤ 1000000 from HE.out.data)
            obtain ⟨dl, hdl⟩ : ∃ dl, E.data.length = dl := ⟨_, rfl⟩
            rw [hdl] at c7 HDL
            have hb1 : dl ≤ 1000000 := HDL.out
            have d1 : decide ((dl : Int) ≤ 1073741824) = true := decide_eq_true (by omega)
            have d1' : decide (dl ≤ 1073741824) = true := decide_eq_true (by omega)
            obtain ⟨z0, hz0⟩ : ∃ z0 : Bool, decide (dl = 0) = z0 := ⟨_, rfl⟩
            have d2 : ((dl : Int) == 0) = z0 := by rw [← hz0]; exact Bool.eq_iff_iff.2 (by rw [beq_iff_eq, decide_eq_true_iff]; omega)
            obtain ⟨t0, ht0⟩ : ∃ t0 : Bool, decide (E.target = []) = t0 := ⟨_, rfl⟩
            rw [ht0] at hn1
            by_cases q1 : E.kind = 1
            · have f1 : (E.kind == 1) = true := beq_iff_eq.mpr q1
              have HR0 := Lib.hid (show mayL E = t0 from HT2.out.trans (by unfold bodyE; rw [if_pos q1, ht0, decide_eq_true (show E.data.length ≤ 1073741824 by omega), Bool.and_true]))
              clear HT2 hz0 ht0 hdl q1 HE
              cases t0 with
              | true =>
                go_wp2_with (first
                  | (go_at_call 99; (with_reducible refine (HI1.out _).mono ?_); rintro x w1 ⟨rfl, rfl⟩)
                  | (go_at_call 99; (with_reducible refine (HI2.out _).mono ?_); rintro x w1 ⟨rfl, rfl⟩))
                go_ret
                exact ⟨by rw [HR0.out]; rfl, HO.out⟩
              | false =>
                go_wp2_with (first
                  | (go_at_call 99; (with_reducible refine (HI1.out _).mono ?_); rintro x w1 ⟨rfl, rfl⟩)
                  | (go_at_call 99; (with_reducible refine (HI2.out _).mono ?_); rintro x w1 ⟨rfl, rfl⟩))
                go_ret
                exact ⟨by rw [HR0.out]; rfl, HO.out⟩
            have f1 : (E.kind == 1) = false := beq_eq_false_iff_ne.mpr q1
            by_cases q2 : E.kind = 2
            · have f2 : (E.kind == 2) = true := beq_iff_eq.mpr q2
              have HR0 := Lib.hid (show mayL E = (t0 && z0) from HT2.out.trans (by unfold bodyE; rw [if_neg q1, if_pos q2, ht0, hdl, hz0]))
              clear HT2 hz0 ht0 hdl q1 q2 HE
              cases t0 with
              | true =>
                go_wp2_with (first
                  | (go_at_call 99; (with_reducible refine (HI1.out _).mono ?_); rintro x w1 ⟨rfl, rfl⟩)
                  | (go_at_call 99; (with_reducible refine (HI2.out _).mono ?_); rintro x w1 ⟨rfl, rfl⟩))
                go_ret
                exact ⟨by rw [HR0.out]; rfl, HO.out⟩
              | false =>
                go_wp2_with (first
                  | (go_at_call 99; (with_reducible refine (HI1.out _).mono ?_); rintro x w1 ⟨rfl, rfl⟩)
                  | (go_at_call 99; (with_reducible refine (HI2.out _).mono ?_); rintro x w1 ⟨rfl, rfl⟩))
                go_ret
                exact ⟨by rw [HR0.out]; rfl, HO.out⟩
            have f2 : (E.kind == 2) = false := beq_eq_false_iff_ne.mpr q2
            by_cases q3 : E.kind = 3
            · have f3 : (E.kind == 3) = true := beq_iff_eq.mpr q3
              have HR0 := Lib.hid (show mayL E = (!t0 && (decide (E.target.length ≤ 4096) && (noZ E.target && z0))) from HT2.out.trans (by unfold bodyE; rw [if_neg q1, if_neg q2, if_pos q3, ← ht0, hdl, hz0, decide_not]))
              have HIX := Lib.hid (fun u => index_any (B E.target) u)
              have HIZ := Lib.hid (index_noZ E.target)
              rw [B_data, HSB.out] at HIX
              obtain ⟨ix, hix⟩ : ∃ ix, Lib.indexByte E.target 0 = ix := ⟨_, rfl⟩
              have hix0 : (-1 : Int) ≤ ix := by rw [← hix]; exact Lib.indexByte_ge _ _
              rw [hix] at HIX HIZ
              obtain ⟨nz, hnz⟩ : ∃ nz, noZ E.target = nz := ⟨_, rfl⟩
              rw [hnz] at HIZ HR0
              have g1' : decide (ix < 0) = nz := HIZ.out
              obtain ⟨tl, htl⟩ : ∃ tl : Bool, decide (E.target.length ≤ 4096) = tl := ⟨_, rfl⟩
              have g2 : decide ((SB.size : Int) ≤ 4096) = tl := by rw [← htl]; exact decide_eq_decide.2 (by have := HSZ.out; omega)
              have g2' : decide (SB.size ≤ 4096) = tl := by rw [← htl]; exact decide_eq_decide.2 (by have := HSZ.out; omega)
              rw [htl] at HR0
              have hsz : SB.size ≤ 500000 := by rw [HSZ.out]; exact HE.out.target
              clear HT2 hz0 ht0 hdl q1 q2 q3 hix hnz htl HE
              cases t0 with
              | true =>
                go_wp2_with (first
                  | (go_at_call 99; (with_reducible refine (HI1.out _).mono ?_); rintro x w1 ⟨rfl, rfl⟩)
                  | (go_at_call 99; (with_reducible refine (HI2.out _).mono ?_); rintro x w1 ⟨rfl, rfl⟩))
                go_ret
                exact ⟨by rw [HR0.out]; rfl, HO.out⟩
              | false =>
                cases tl with
                | false =>
                  go_wp2_with (first
                    | (go_at_call 99; (with_reducible refine (HI1.out _).mono ?_); rintro x w1 ⟨rfl, rfl⟩)
                    | (go_at_call 99; (with_reducible refine (HI2.out _).mono ?_); rintro x w1 ⟨rfl, rfl⟩))
                  go_ret
                  exact ⟨by rw [HR0.out]; rfl, HO.out⟩
                | true =>
                  cases nz with
                  | false =>
                    go_wp2_with (first
                      | (go_at_call 99; (with_reducible refine (HI1.out _).mono ?_); rintro x w1 ⟨rfl, rfl⟩)
                      | (go_at_call 99; (with_reducible refine (HI2.out _).mono ?_); rintro x w1 ⟨rfl, rfl⟩)
                      | (go_at_call 100; refine (HIX.out _).mono ?_; rintro x w1 ⟨rfl, rfl⟩))
                    go_ret
                    exact ⟨by rw [HR0.out]; rfl, HO.out⟩
                  | true =>
                    go_wp2_with (first
                      | (go_at_call 99; (with_reducible refine (HI1.out _).mono ?_); rintro x w1 ⟨rfl, rfl⟩)
                      | (go_at_call 99; (with_reducible refine (HI2.out _).mono ?_); rintro x w1 ⟨rfl, rfl⟩)
                      | (go_at_call 100; refine (HIX.out _).mono ?_; rintro x w1 ⟨rfl, rfl⟩))
                    go_ret
                    exact ⟨by rw [HR0.out]; rfl, HO.out⟩
            have f3 : (E.kind == 3) = false := beq_eq_false_iff_ne.mpr q3
            by_cases q4 : E.kind = 4
            · have f4 : (E.kind == 4) = true := beq_iff_eq.mpr q4
              have HR0 := Lib.hid (show mayL E = (rightL E.target && z0) from HT2.out.trans (by unfold bodyE; rw [if_neg q1, if_neg q2, if_neg q3, if_pos q4, hdl, hz0]))
              have HRT := Lib.hid (right_any (B E.target) w1 (by rw [B_size]; exact HE.out.target) HM1.out)
              rw [B_data, HSB.out] at HRT
              obtain ⟨rt, hrt⟩ : ∃ rt, rightL E.target = rt := ⟨_, rfl⟩
              rw [hrt] at HRT HR0
              clear HT2 hz0 ht0 hdl q1 q2 q3 q4 hrt HE
              cases rt with
              | true =>
                go_wp2_with (first
                  | (go_at_call 99; (with_reducible refine (HI1.out _).mono ?_); rintro x w1 ⟨rfl, rfl⟩)
                  | (go_at_call 99; (with_reducible refine (HI2.out _).mono ?_); rintro x w1 ⟨rfl, rfl⟩)
                  | (go_at_call 53; refine HRT.out.mono ?_; rintro x w2 ⟨rfl, h2⟩; have H2 := Lib.hid h2; clear h2))
                go_ret
                exact ⟨by rw [HR0.out]; rfl, HO.out.trans' H2.out⟩
              | false =>
                go_wp2_with (first
                  | (go_at_call 99; (with_reducible refine (HI1.out _).mono ?_); rintro x w1 ⟨rfl, rfl⟩)
                  | (go_at_call 99; (with_reducible refine (HI2.out _).mono ?_); rintro x w1 ⟨rfl, rfl⟩)
                  | (go_at_call 53; refine HRT.out.mono ?_; rintro x w2 ⟨rfl, h2⟩; have H2 := Lib.hid h2; clear h2))
                go_ret
                exact ⟨by rw [HR0.out]; rfl, HO.out.trans' H2.out⟩
            have f4 : (E.kind == 4) = false := beq_eq_false_iff_ne.mpr q4
            have HR0 := Lib.hid (show mayL E = false from HT2.out.trans (by unfold bodyE; rw [if_neg q1, if_neg q2, if_neg q3, if_neg q4]))
            clear HT2 hz0 ht0 hdl q1 q2 q3 q4 HE
            go_wp2_with (first
              | (go_at_call 99; (with_reducible refine (HI1.out _).mono ?_); rintro x w1 ⟨rfl, rfl⟩)
              | (go_at_call 99; (with_reducible refine (HI2.out _).mono ?_); rintro x w1 ⟨rfl, rfl⟩))
            go_ret
            exact ⟨by rw [HR0.out]; rfl, HO.out⟩
          | false =>
            have HR0 := Lib.hid (show mayL E = false from HT.out.trans (by rw [Bool.and_false, Bool.and_false, Bool.and_false, Bool.and_false]; rfl))
            clear HT HE m0 m1
            go_wp2_with (first
              | (go_at_call 99; (with_reducible refine (HI1.out _).mono ?_); rintro x w1 ⟨rfl, rfl⟩)
              | (go_at_call 99; (with_reducible refine (HI2.out _).mono ?_); rintro x w1 ⟨rfl, rfl⟩))
            go_ret
            exact ⟨by rw [HR0.out]; rfl, HO.out⟩
        | false =>
          have HR0 := Lib.hid (show mayL E = false from HT.out.trans (by rw [Bool.false_and, Bool.and_false, Bool.and_false, Bool.and_false]; rfl))
          clear HT HE m0 m1
          go_wp2_with (first
            | (go_at_call 99; (with_reducible refine (HI1.out _).mono ?_); rintro x w1 ⟨rfl, rfl⟩)
            | (go_at_call 99; (with_reducible refine (HI2.out _).mono ?_); rintro x w1 ⟨rfl, rfl⟩))
          go_ret
          exact ⟨by rw [HR0.out]; rfl, HO.out⟩
      · have e1 : decide (E.mode > 4095) = true := decide_eq_true (by omega)
        have HR0 := Lib.hid (show mayL E = false from HT.out.trans (by rw [decide_eq_false m1, Bool.false_and, Bool.and_false, Bool.and_false]; rfl))
        clear HT HE m0 m1
        go_wp2_with (first
          | (go_at_call 99; (with_reducible refine (HI1.out _).mono ?_); rintro x w1 ⟨rfl, rfl⟩)
          | (go_at_call 99; (with_reducible refine (HI2.out _).mono ?_); rintro x w1 ⟨rfl, rfl⟩))
        go_ret
        exact ⟨by rw [HR0.out]; rfl, HO.out⟩
    · have e0 : decide (E.mode < 0) = true := decide_eq_true (by omega)
      have HR0 := Lib.hid (show mayL E = false from HT.out.trans (by rw [decide_eq_false m0, Bool.false_and, Bool.and_false]; rfl))
      clear HT HE m0
      go_wp2_with (first
        | (go_at_call 99; (with_reducible refine (HI1.out _).mono ?_); rintro x w1 ⟨rfl, rfl⟩)
        | (go_at_call 99; (with_reducible refine (HI2.out _).mono ?_); rintro x w1 ⟨rfl, rfl⟩))
      go_ret
      exact ⟨by rw [HR0.out]; rfl, HO.out⟩
end Go.Proofs.YtpghionmmlidnaaGreatDoor.Walks
