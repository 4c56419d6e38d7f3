/- Contracts of clock.down, days, long. Dates by value; contract of clock.Date. Contracts of clock.Seconds, Dos, FromDos. -/
import Derived.Test.YtdkfemmjoabbcaaDoorTim
import Derived.Test.YtdkfemmjoabbcaaDoorLater
import Derived.Test.YtdkfemmjoabbcaaDoorOne
namespace Go.Proofs.YtdkfemmjoabbcaaDoor.Walks
open Go Go.RowKit Go.Proofs.YtdkfemmjoabbcaaDoor.Aid Go.Proofs.YtdkfemmjoabbcaaDoor.Pth Go.Proofs.YtdkfemmjoabbcaaDoor.Own Go.Proofs.YtdkfemmjoabbcaaDoorW.PrintWords

set_option maxRecDepth 100000 in
set_option maxHeartbeats 4000000 in
theorem down_any (a b : Int) (w : World) (hb : b = 86400 ∨ b = 400 ∨ b = 146097) (h0 : 0 ≤ a) (h1 : a ≤ 10000000000) :
    Calls Tryd.prog 58 #[.int .i64 a, .int .i64 b] w (fun x w' => x = .returned (.tuple #[.int .i64 (a / b), .int .i64 (a % b)]) ∧ Only (fun _ => False) w w') := by
  have e1 : a.tdiv b = a / b := Int.tdiv_eq_ediv_of_nonneg h0
  have e2 : a.tmod b = a % b := Int.tmod_eq_emod_of_nonneg h0
  have b0 : 0 < b := by omega
  have hm := Int.emod_nonneg a (show b ≠ 0 by omega)
  have E := Lib.hid (And.intro e1 e2)
  have d1 : decide (a.tmod b < 0) = false := by rw [e2]; exact decide_eq_false (by omega)
  clear e1 e2
  rcases hb with rfl | rfl | rfl
  all_goals
    go_enter Tryd.func58, Tryd.ntmps58
    go_wp2_with fail
    go_quiet (fail)
    go_wp2_with fail
    go_ret2
    exact ⟨rfl, (Only.refl _ _).drewN _⟩
def yy (y m : Int) : Int := if m ≤ 2 then y - 1 else y
def daysL (y m d : Int) : Int := yy y m / 400 * 146097 + yy y m % 400 * 365 + yy y m % 400 / 4 - yy y m % 400 / 100 + ((153 * ((m + 9) % 12) + 2) / 5 + d - 1) - 719468
set_option maxRecDepth 100000 in
set_option maxHeartbeats 4000000 in
theorem days_any (y m d : Int) (w : World) (hy : 1970 ≤ y ∧ y ≤ 3000) (hm : 1 ≤ m ∧ m ≤ 12) (hd : 0 ≤ d ∧ d ≤ 31) :
    Calls Tryd.prog 57 #[.int .i64 y, .int .i64 m, .int .i64 d] w (fun x w' => x = .returned (.int .i64 (daysL y m d)) ∧ Only (fun _ => False) w w') := by
  obtain ⟨y0, y1⟩ := hy
  obtain ⟨m0, m1⟩ := hm
  obtain ⟨d0, d1⟩ := hd
  by_cases c : m ≤ 2
  · have e1 : decide (m ≤ 2) = true := decide_eq_true c
    have HD := Lib.hid (fun u => down_any (y - 1) 400 u (by omega) (by omega) (by omega))
    have HT := Lib.hid (show daysL y m d = (y - 1) / 400 * 146097 + (y - 1) % 400 * 365 + (y - 1) % 400 / 4 - (y - 1) % 400 / 100 + ((153 * ((m + 9) % 12) + 2) / 5 + d - 1) - 719468 by unfold daysL yy; rw [if_pos c])
    have q0 : 0 ≤ (y - 1) / 400 := by omega
    have q1 : (y - 1) / 400 ≤ 10 := by omega
    have r0 : 0 ≤ (y - 1) % 400 := by omega
    have r1 : (y - 1) % 400 < 400 := by omega
    obtain ⟨q, hq⟩ : ∃ q, (y - 1) / 400 = q := ⟨_, rfl⟩
    obtain ⟨r, hr⟩ : ∃ r, (y - 1) % 400 = r := ⟨_, rfl⟩
    rw [hq, hr] at HD HT
    rw [hq] at q0 q1
    rw [hr] at r0 r1
    clear hq hr c
    go_enter Tryd.func57, Tryd.ntmps57
    go_wp2_with (go_at_call 58; (with_reducible refine (HD.out _).mono ?_); rintro x w1 ⟨rfl, h1⟩; have H1 := Lib.hid h1; clear h1)
    go_ret
    exact ⟨by rw [HT.out]; rfl, H1.out⟩
  · have e1 : decide (m ≤ 2) = false := decide_eq_false c
    have HD := Lib.hid (fun u => down_any y 400 u (by omega) (by omega) (by omega))
    have HT := Lib.hid (show daysL y m d = y / 400 * 146097 + y % 400 * 365 + y % 400 / 4 - y % 400 / 100 + ((153 * ((m + 9) % 12) + 2) / 5 + d - 1) - 719468 by unfold daysL yy; rw [if_neg c])
    have q0 : 0 ≤ y / 400 := by omega
    have q1 : y / 400 ≤ 10 := by omega
    have r0 : 0 ≤ y % 400 := by omega
    have r1 : y % 400 < 400 := by omega
    obtain ⟨q, hq⟩ : ∃ q, y / 400 = q := ⟨_, rfl⟩
    obtain ⟨r, hr⟩ : ∃ r, y % 400 = r := ⟨_, rfl⟩
    rw [hq, hr] at HD HT
    rw [hq] at q0 q1
    rw [hr] at r0 r1
    clear hq hr c
    go_enter Tryd.func57, Tryd.ntmps57
    go_wp2_with (go_at_call 58; (with_reducible refine (HD.out _).mono ?_); rintro x w1 ⟨rfl, h1⟩; have H1 := Lib.hid h1; clear h1)
    go_ret
    exact ⟨by rw [HT.out]; rfl, H1.out⟩
def longL (y m : Int) : Int := if m = 12 then 31 else daysL y (m + 1) 1 - daysL y m 1
theorem days_bound (y m d : Int) (hy : 1970 ≤ y ∧ y ≤ 3000) (_ : 1 ≤ m ∧ m ≤ 12) (hd : 0 ≤ d ∧ d ≤ 31) : -10000 ≤ daysL y m d ∧ daysL y m d ≤ 1000000 := by
  unfold daysL yy; split <;> omega
set_option maxRecDepth 100000 in
set_option maxHeartbeats 4000000 in
theorem long_any (y m : Int) (w : World) (hy : 1970 ≤ y ∧ y ≤ 3000) (hm : 1 ≤ m ∧ m ≤ 12) :
    Calls Tryd.prog 56 #[.int .i64 y, .int .i64 m] w (fun x w' => x = .returned (.int .i64 (longL y m)) ∧ Only (fun _ => False) w w') := by
  by_cases c : m = 12
  · subst c
    go_enter Tryd.func56, Tryd.ntmps56
    go_wp2_with fail
    go_ret
    exact ⟨rfl, Only.refl _ _⟩
  · have e1 : (m == 12) = false := beq_eq_false_iff_ne.mpr c
    have HD1 := Lib.hid (fun u => days_any y (m + 1) 1 u hy (by omega) (by omega))
    have HD2 := Lib.hid (fun u => days_any y m 1 u hy hm (by omega))
    have HT := Lib.hid (show longL y m = daysL y (m + 1) 1 - daysL y m 1 by unfold longL; rw [if_neg c])
    have g1 := days_bound y (m + 1) 1 hy (by omega) (by omega)
    have g2 := days_bound y m 1 hy hm (by omega)
    obtain ⟨a, ha⟩ : ∃ a, daysL y (m + 1) 1 = a := ⟨_, rfl⟩
    obtain ⟨b, hb⟩ : ∃ b, daysL y m 1 = b := ⟨_, rfl⟩
    rw [ha] at HD1 HT g1
    rw [hb] at HD2 HT g2
    obtain ⟨g3, g4⟩ := g1
    obtain ⟨g5, g6⟩ := g2
    obtain ⟨y0, y1⟩ := hy
    obtain ⟨m0, m1⟩ := hm
    clear ha hb c
    go_enter Tryd.func56, Tryd.ntmps56
    go_wp2_with fail
    (with_reducible refine (HD1.out _).mono ?_)
    rintro x w1 ⟨rfl, h1⟩
    have H1 := Lib.hid h1
    clear h1
    go_wp2_with fail
    (with_reducible refine (HD2.out _).mono ?_)
    rintro x w2 ⟨rfl, h2⟩
    have H2 := Lib.hid h2
    clear h2
    go_wp2_with fail
    go_ret
    exact ⟨by rw [HT.out]; rfl, H1.out.trans' H2.out⟩
end Go.Proofs.YtdkfemmjoabbcaaDoor.Walks
namespace Go.Proofs.YtdkfemmjoabbcaaDoor.Walks
open Go Go.RowKit Go.Proofs.YtdkfemmjoabbcaaDoor.Aid Go.Proofs.YtdkfemmjoabbcaaDoor.Pth Go.Proofs.YtdkfemmjoabbcaaDoor.Own Go.Proofs.YtdkfemmjoabbcaaDoorW.PrintWords

def drow (y m d h i s : Int) : Array Value := #[.int .i64 y, .int .i64 m, .int .i64 d, .int .i64 h, .int .i64 i, .int .i64 s]
def dval (y m d h i s : Int) : Value := .agg (drow y m d h i s)
theorem drow_one (y m d h i s : Int) : (drow y m d h i s).all (·.oneCell') = true := by simp [drow, Value.oneCell']
theorem infoD : (Tryd.prog.info? 53).map (·.size) = some 6 := by kernel_rfl
theorem loadD {w : World} {g : Nat} {y m d h i s : Int} (hb : w.heap[g]? = some (.cells (drow y m d h i s) 53 (0, 0))) : (loadVar 53 ⟨g, 0, none⟩).run Tryd.prog w = .ok (dval y m d h i s) w :=
  run_loadVar_row (P := Tryd.prog) w g 53 53 (drow y m d h i s) (0, 0) _ hb Tryd.underlying53 rfl infoD
section
variable {ops : Array Oper} {rest : List Oper} {o : Oper} {a : Act} {Q : Exit → Act → World → Prop}
theorem store_date {W : World} (hgd : o.guard = none) {g : Nat} {cs0 : Array Value} (h0 : cs0.size = 6) (y m d h i s : Int) (u v : Operand) (ho : o.op = .store 53 u v) (hx : a.eval u = .pointer (some ⟨g, 0, none⟩)) (hy : a.eval v = dval y m d h i s) (hb : W.heap[g]? = some (.cells cs0 53 (0, 0)))
    (hK : ∀ w1, w1.heap[g]? = some (.cells (drow y m d h i s) 53 (0, 0)) → Only (fun k => k = g) W w1 → wpList Tryd.prog ops Q rest (a.put o.dst undef) w1) : wpList Tryd.prog ops Q (o :: rest) a W := by
  refine wpList_store_row hgd 53 u v ho g (drow y m d h i s) hx hy 53 cs0 hb infoD (by rw [h0]; rfl) (drow_one ..) (hK _ (setRow_heap W g cs0 (drow y m d h i s) 53 _ hb) ?_)
  exact ⟨rfl, rfl, rfl, by simp, fun i _ hn => setRow_other W g i (drow ..) hn⟩
theorem load_date {W : World} (hgd : o.guard = none) {g : Nat} {y m d h i s : Int} (x : Operand) (ho : o.op = .load 53 x) (hx : a.eval x = .pointer (some ⟨g, 0, none⟩)) (hb : W.heap[g]? = some (.cells (drow y m d h i s) 53 (0, 0))) (hK : wpList Tryd.prog ops Q rest (a.put o.dst (dval y m d h i s)) W) : wpList Tryd.prog ops Q (o :: rest) a W :=
  wpList_load_row hgd 53 x ho g hx 53 (drow y m d h i s) (0, 0) _ hb Tryd.underlying53 rfl infoD hK
theorem store_newD {W : World} (hgd : o.guard = none) {cs0 : Array Value} (h0 : cs0.size = 6) (y m d h i s : Int) (u v : Operand) (ho : o.op = .store 53 u v) (hx : a.eval u = .pointer (some ⟨W.heap.size, 0, none⟩)) (hy : a.eval v = dval y m d h i s)
    (hK : ∀ w1, w1.heap[W.heap.size]? = some (.cells (drow y m d h i s) 53 (0, 0)) → Only (fun _ => False) W w1 → wpList Tryd.prog ops Q rest (a.put o.dst undef) w1) : wpList Tryd.prog ops Q (o :: rest) a (W.alloc (.cells cs0 53)) :=
  store_date hgd h0 y m d h i s u v ho hx hy (alloc_new W _) fun w1 h1 h2 => hK w1 h1 (((Only.refl (fun _ => False) W).alloc _).trans h2 (fun k hk => Or.inr (by rw [hk]; exact Nat.le_refl _)))
end
/-- The day's number in its era, its year, day, month there. -/
def cO (n : Int) : Int := (n + 719468) % 146097
def cE (n : Int) : Int := (n + 719468) / 146097
def cy (n : Int) : Int := (cO n - cO n / 1460 + cO n / 36524 - cO n / 146096) / 365
def ci (n : Int) : Int := cO n - (365 * cy n + cy n / 4 - cy n / 100)
def cm (n : Int) : Int := (5 * ci n + 2) / 153
def cD (n : Int) : Int := ci n - (153 * cm n + 2) / 5 + 1
def cM (n : Int) : Int := if cm n ≥ 10 then cm n - 9 else cm n + 3
def cY (n : Int) : Int := if cm n ≥ 10 then cy n + cE n * 400 + 1 else cy n + cE n * 400
def secD (n r : Int) : Value := dval (cY n) (cM n) (cD n) (r / 3600) (r / 60 % 60) (r % 60)
set_option maxRecDepth 100000 in
set_option maxHeartbeats 4000000 in
theorem date_any (s : Int) (w : World) (h0 : 0 ≤ s) (h1 : s ≤ 5000000000) (hci : 0 ≤ ci (s / 86400)) :
    Calls Tryd.prog 42 #[.int .i64 s] w (fun x w' => x = .returned (secD (s / 86400) (s % 86400)) ∧ Only (fun _ => False) w w') := by
  have HD1 := Lib.hid (fun u => down_any s 86400 u (by omega) (by omega) (by omega))
  have n0 : 0 ≤ s / 86400 := by omega
  have n1 : s / 86400 ≤ 100000 := by omega
  have r0 : 0 ≤ s % 86400 := by omega
  have r1 : s % 86400 < 86400 := by omega
  obtain ⟨n, hn⟩ : ∃ n, s / 86400 = n := ⟨_, rfl⟩
  obtain ⟨r, hr⟩ : ∃ r, s % 86400 = r := ⟨_, rfl⟩
  rw [hn, hr] at HD1 ⊢
  rw [hn] at n0 n1 hci
  rw [hr] at r0 r1
  have HD2 := Lib.hid (fun u => down_any (n + 719468) 146097 u (by omega) (by omega) (by omega))
  have HO := Lib.hid (show (n + 719468) % 146097 = cO n from rfl)
  have HE := Lib.hid (show (n + 719468) / 146097 = cE n from rfl)
  have o0 : 0 ≤ cO n := by unfold cO; omega
  have o1 : cO n < 146097 := by unfold cO; omega
  have v0 : 0 ≤ cE n := by unfold cE; omega
  have v1 : cE n ≤ 100 := by unfold cE; omega
  have HY := Lib.hid (show (cO n - cO n / 1460 + cO n / 36524 - cO n / 146096) / 365 = cy n from rfl)
  have y0 : 0 ≤ cy n := by unfold cy; omega
  have y1 : cy n ≤ 1000 := by unfold cy; omega
  have HI := Lib.hid (show cO n - (365 * cy n + cy n / 4 - cy n / 100) = ci n from rfl)
  have i0 : 0 ≤ ci n := hci
  have i1 : ci n ≤ 366 := by unfold ci cy; omega
  have HMm := Lib.hid (show (5 * ci n + 2) / 153 = cm n from rfl)
  have m0 : 0 ≤ cm n := by unfold cm; omega
  have m1 : cm n ≤ 12 := by unfold cm; omega
  have HDd := Lib.hid (show ci n - (153 * cm n + 2) / 5 + 1 = cD n from rfl)
  have hMM := Lib.hid (show cM n = if cm n ≥ 10 then cm n - 9 else cm n + 3 from rfl)
  have hYY := Lib.hid (show cY n = if cm n ≥ 10 then cy n + cE n * 400 + 1 else cy n + cE n * 400 from rfl)
  rw [HO.out, HE.out] at HD2
  unfold secD
  obtain ⟨o, ho⟩ : ∃ o, cO n = o := ⟨_, rfl⟩
  obtain ⟨e, he⟩ : ∃ e, cE n = e := ⟨_, rfl⟩
  obtain ⟨y, hy⟩ : ∃ y, cy n = y := ⟨_, rfl⟩
  obtain ⟨i, hi⟩ : ∃ i, ci n = i := ⟨_, rfl⟩
  obtain ⟨m, hm⟩ : ∃ m, cm n = m := ⟨_, rfl⟩
  obtain ⟨d, hd⟩ : ∃ d, cD n = d := ⟨_, rfl⟩
  rw [ho, he] at HD2
  rw [ho, hy] at HY
  rw [ho, hy, hi] at HI
  rw [hi, hm] at HMm
  rw [hi, hm, hd] at HDd
  rw [hm] at hMM
  rw [hm, hy, he] at hYY
  rw [ho] at o0 o1
  rw [he] at v0 v1
  rw [hy] at y0 y1
  rw [hi] at i0 i1
  rw [hm] at m0 m1
  rw [hd]
  have a1 : decide (s < -1099511627776) = false := decide_eq_false (by omega)
  have a2 : decide (s > 1099511627776) = false := decide_eq_false (by omega)
  clear hn hr ho he hy hi hm hd HO HE h0 h1 hci
  go_enter Tryd.func42, Tryd.ntmps42
  go_upto_region 3 with (fail)
  have hO1 := (Only.refl (fun _ => False) w).alloc (.cells (drow 0 0 0 0 0 0) 53)
  have hB1 := alloc_new w (.cells (drow 0 0 0 0 0 0) 53)
  change Code.wp Tryd.prog _ _ _ (w.alloc (.cells (drow 0 0 0 0 0 0) 53))
  obtain ⟨g0, hg0⟩ : ∃ g0, w.heap.size = g0 := ⟨_, rfl⟩
  obtain ⟨W, hW⟩ : ∃ W, w.alloc (.cells (drow 0 0 0 0 0 0) 53) = W := ⟨_, rfl⟩
  rw [hg0, hW] at hB1
  rw [hW] at hO1
  rw [hg0, hW]
  have HO := Lib.hid hO1
  have HB := Lib.hid hB1
  have HG := Lib.hid (show w.heap.size ≤ g0 by omega)
  clear hO1 hB1 hg0 hW
  go_upto_region 4 with (go_at_call 58; (with_reducible refine (HD1.out _).mono ?_); rintro x w1 ⟨rfl, h1⟩; replace HO := Lib.hid (HO.out.trans' h1); replace HB := Lib.hid (h1.keeps HB.out id); clear h1)
  go_upto_region 5 with (go_at_call 58; (with_reducible refine (HD2.out _).mono ?_); rintro x w2 ⟨rfl, h2⟩; replace HO := Lib.hid (HO.out.trans' h2); replace HB := Lib.hid (h2.keeps HB.out id); clear h2)
  clear HD1 HD2
  go_upto_region 6 with (fail)
  rw [HY.out]
  go_upto_region 7 with (fail)
  rw [HI.out]
  go_upto_region 8 with (fail)
  rw [HMm.out]
  go_upto_region 9 with ((with_reducible refine gate_store 53 rfl ?_); refine store_newD rfl rfl (y + e * 400) (m + 3) (i - (153 * m + 2) / 5 + 1) (r / 3600) (r / 60 % 60) (r % 60) _ _ rfl rfl rfl ?_; intro w3 hb3 ho3)
  rw [HDd.out] at hb3
  obtain ⟨g1, hg1⟩ : ∃ g1, w2.heap.size = g1 := ⟨_, rfl⟩
  rw [hg1] at hb3 ⊢
  have HN := Lib.hid (show g1 ≠ g0 by have := Only.heap_lt HB.out; omega)
  have HGE := Lib.hid (show w.heap.size ≤ g1 by have := HO.out.size; omega)
  replace HO := Lib.hid (HO.out.trans' ho3)
  replace HB := Lib.hid (ho3.keeps HB.out id)
  have HC := Lib.hid hb3
  clear ho3 hg1 HY HI HMm HDd
  by_cases c : m ≥ 10
  · have c1 : decide (m ≥ 10) = true := decide_eq_true c
    have HMM := Lib.hid (hMM.out.trans (if_pos c))
    have HYY := Lib.hid (hYY.out.trans (if_pos c))
    have x0 : w3.cell? ⟨g1, 0, none⟩ = some (.int .i64 (y + e * 400)) := Joins.cell_of_block hb3 0
    have x1 : w3.cell? ⟨g1, 1, none⟩ = some (.int .i64 (m + 3)) := Joins.cell_of_block hb3 1
    have f0 := frozen_of_row w3 g1 0 _ _ hb3
    have f1 := frozen_of_row w3 g1 1 _ _ hb3
    have hh1 := heap_setCell_same w3 g1 1 _ _ (.int .i64 (m - 9)) hb3
    have hh2 := heap_setCell_same (w3.setCell ⟨g1, 1, none⟩ (.int .i64 (m - 9))) g1 0 _ _ (.int .i64 (y + e * 400 + 1)) hh1
    have hk : ((w3.setCell ⟨g1, 1, none⟩ (.int .i64 (m - 9))).setCell ⟨g1, 0, none⟩ (.int .i64 (y + e * 400 + 1))).heap[g0]? = some (.cells (drow 0 0 0 0 0 0) 53 (0, 0)) := by
      rw [heap_setCell_other _ ⟨g1, 0, none⟩ g0 _ (Ne.symm HN.out), heap_setCell_other _ ⟨g1, 1, none⟩ g0 _ (Ne.symm HN.out)]; exact HB.out
    have HH2 := Lib.hid (show ((w3.setCell ⟨g1, 1, none⟩ (.int .i64 (m - 9))).setCell ⟨g1, 0, none⟩ (.int .i64 (y + e * 400 + 1))).heap[g1]? = some (.cells (drow (y + e * 400 + 1) (m - 9) d (r / 3600) (r / 60 % 60) (r % 60)) 53 (0, 0)) from hh2)
    have HK := Lib.hid hk
    have hoo : Only (fun _ => False) w ((w3.setCell ⟨g1, 1, none⟩ (.int .i64 (m - 9))).setCell ⟨g1, 0, none⟩ (.int .i64 (y + e * 400 + 1))) :=
      (HO.out.setCell (p := ⟨g1, 1, none⟩) (Or.inr HGE.out) _).setCell (p := ⟨g1, 0, none⟩) (Or.inr HGE.out) _
    have HOO := Lib.hid hoo
    clear hb3 hh1 hh2 hk hoo c hMM hYY HO HB HC
    go_upto_region 11 with (fail)
    change Code.wp Tryd.prog _ _ _ ((w3.setCell ⟨g1, 1, none⟩ (.int .i64 (m - 9))).setCell ⟨g1, 0, none⟩ (.int .i64 (y + e * 400 + 1)))
    obtain ⟨V, hV⟩ : ∃ V, (w3.setCell ⟨g1, 1, none⟩ (.int .i64 (m - 9))).setCell ⟨g1, 0, none⟩ (.int .i64 (y + e * 400 + 1)) = V := ⟨_, rfl⟩
    rw [hV] at HH2 HK HOO ⊢
    clear hV x0 x1 f0 f1
    go_wp2_with (first
      | ((with_reducible refine gate 84 rfl ?_); refine load_date rfl _ rfl rfl HH2.out ?_)
      | ((with_reducible refine gate_store 53 rfl ?_); refine store_date (cs0 := drow 0 0 0 0 0 0) rfl rfl _ _ _ _ _ _ _ _ rfl rfl rfl HK.out ?_; intro w5 hb5 ho5; have HL5 := Lib.hid (loadD hb5); have HO5 := Lib.hid ho5; clear hb5 ho5))
    refine bodyPost_ret (results_cell1 rfl rfl HL5.out) rfl ?_
    exact ⟨by rw [HMM.out, HYY.out], HOO.out.trans HO5.out (fun k hk => Or.inr (by rw [hk]; exact HG.out))⟩
  · have c1 : decide (m ≥ 10) = false := decide_eq_false c
    have HMM := Lib.hid (hMM.out.trans (if_neg c))
    have HYY := Lib.hid (hYY.out.trans (if_neg c))
    clear hb3 c hMM hYY
    go_wp2_with (first
      | ((with_reducible refine gate 84 rfl ?_); refine load_date rfl _ rfl rfl HC.out ?_)
      | ((with_reducible refine gate_store 53 rfl ?_); refine store_date (cs0 := drow 0 0 0 0 0 0) rfl rfl _ _ _ _ _ _ _ _ rfl rfl rfl HB.out ?_; intro w5 hb5 ho5; have HL5 := Lib.hid (loadD hb5); have HO5 := Lib.hid ho5; clear hb5 ho5))
    refine bodyPost_ret (results_cell1 rfl rfl HL5.out) rfl ?_
    exact ⟨by rw [HMM.out, HYY.out], HO.out.trans HO5.out (fun k hk => Or.inr (by rw [hk]; exact HG.out))⟩
end Go.Proofs.YtdkfemmjoabbcaaDoor.Walks
namespace Go.Proofs.YtdkfemmjoabbcaaDoor.Walks
open Go Go.RowKit Go.Proofs.YtdkfemmjoabbcaaDoor.Aid Go.Proofs.YtdkfemmjoabbcaaDoor.Pth Go.Proofs.YtdkfemmjoabbcaaDoor.Own Go.Proofs.YtdkfemmjoabbcaaDoorW.PrintWords

/-- A date that there is. -/
structure DOk (y m d h i s : Int) : Prop where
  hy : 1980 ≤ y ∧ y ≤ 2107
  hm : 1 ≤ m ∧ m ≤ 12
  hd : 1 ≤ d ∧ d ≤ longL y m
  hh : 0 ≤ h ∧ h ≤ 23
  hi : 0 ≤ i ∧ i ≤ 59
  hs : 0 ≤ s ∧ s ≤ 59
  he : d ≤ 31
def secL (y m d h i s : Int) : Int := daysL y m d * 86400 + h * 3600 + i * 60 + s
set_option maxRecDepth 100000 in
set_option maxHeartbeats 4000000 in
theorem seconds_ok (y m d h i s : Int) (w : World) (hk : DOk y m d h i s) :
    Calls Tryd.prog 41 #[dval y m d h i s] w (fun x w' => x = .returned (.tuple #[.int .i64 (secL y m d h i s), .bool true]) ∧ Only (fun _ => False) w w') := by
  have hO1 := (Only.refl (fun _ => False) w).alloc (.cells (drow y m d h i s) 53)
  have hB1 := alloc_new w (.cells (drow y m d h i s) 53)
  obtain ⟨g0, hg0⟩ : ∃ g0, w.heap.size = g0 := ⟨_, rfl⟩
  obtain ⟨W, hW⟩ : ∃ W, w.alloc (.cells (drow y m d h i s) 53) = W := ⟨_, rfl⟩
  have HGW := Lib.hid (And.intro hg0 hW)
  rw [hg0, hW] at hB1
  rw [hW] at hO1
  have HO := Lib.hid hO1
  have HB := Lib.hid hB1
  obtain ⟨⟨y0, y1⟩, ⟨m0, m1⟩, ⟨d0, d1⟩, ⟨h0, h1⟩, ⟨i0, i1⟩, ⟨s0, s1⟩, d2⟩ := hk
  have HL := Lib.hid (fun u => long_any y m u ⟨by omega, by omega⟩ ⟨m0, m1⟩)
  have HD := Lib.hid (fun u => days_any y m d u ⟨by omega, by omega⟩ ⟨m0, m1⟩ ⟨by omega, d2⟩)
  have HT := Lib.hid (show secL y m d h i s = daysL y m d * 86400 + h * 3600 + i * 60 + s from rfl)
  have hb := days_bound y m d ⟨by omega, by omega⟩ ⟨m0, m1⟩ ⟨by omega, d2⟩
  obtain ⟨L, hL⟩ : ∃ L, longL y m = L := ⟨_, rfl⟩
  obtain ⟨D, hD⟩ : ∃ D, daysL y m d = D := ⟨_, rfl⟩
  rw [hL] at HL d1
  rw [hD] at HD HT hb
  obtain ⟨hb0, hb1⟩ := hb
  have q0 : decide (y < 1) = false := decide_eq_false (by omega)
  have q1 : decide (y > 9999) = false := decide_eq_false (by omega)
  have q2 : decide (m < 1) = false := decide_eq_false (by omega)
  have q3 : decide (m > 12) = false := decide_eq_false (by omega)
  have q4 : decide (d < 1) = false := decide_eq_false (by omega)
  have q5 : decide (d > L) = false := decide_eq_false (by omega)
  have q6 : decide (h < 0) = false := decide_eq_false (by omega)
  have q7 : decide (h > 23) = false := decide_eq_false (by omega)
  have q8 : decide (i < 0) = false := decide_eq_false (by omega)
  have q9 : decide (i > 59) = false := decide_eq_false (by omega)
  have qa : decide (s < 0) = false := decide_eq_false (by omega)
  have qb : decide (s > 59) = false := decide_eq_false (by omega)
  have x0 : ∀ x : Later W, x.w.cell? ⟨g0, 0, none⟩ = some (.int .i64 y) := fun x => x.h.cell (Joins.cell_of_block HB.out 0) id
  have x1 : ∀ x : Later W, x.w.cell? ⟨g0, 1, none⟩ = some (.int .i64 m) := fun x => x.h.cell (Joins.cell_of_block HB.out 1) id
  have x2 : ∀ x : Later W, x.w.cell? ⟨g0, 2, none⟩ = some (.int .i64 d) := fun x => x.h.cell (Joins.cell_of_block HB.out 2) id
  clear hL hD hg0 hW hO1 hB1 d1 y0 y1 m0 m1 d0 d2
  go_enter Tryd.func41, Tryd.ntmps41
  go_upto_region 1 with (fail)
  change Code.wp Tryd.prog _ _ _ (w.alloc (.cells (drow y m d h i s) 53))
  rw [HGW.out.2, HGW.out.1]
  refine wp_region_later (by kernel_rfl) (by kernel_rfl) ?_
  repeat (go_big_quiet_step ((go_at_call 56; exact Calls.later (HL.out _))))
  refine wpQuiet_nil ?_
  rintro u ⟨x, hx⟩
  have hu := x.h
  rw [← hx] at hu
  clear hx
  have hb := hu.keeps HB.out id
  have HU := Lib.hid (HO.out.trans' hu)
  clear x0 x1 x2 hu HO
  have x3 : u.cell? ⟨g0, 3, none⟩ = some (.int .i64 h) := Joins.cell_of_block hb 3
  have x4 : u.cell? ⟨g0, 4, none⟩ = some (.int .i64 i) := Joins.cell_of_block hb 4
  have x5 : u.cell? ⟨g0, 5, none⟩ = some (.int .i64 s) := Joins.cell_of_block hb 5
  go_upto_region 5 with (fail)
  have z0 : ∀ x : Later u, x.w.cell? ⟨g0, 0, none⟩ = some (.int .i64 y) := fun x => x.h.cell (Joins.cell_of_block hb 0) id
  have z1 : ∀ x : Later u, x.w.cell? ⟨g0, 1, none⟩ = some (.int .i64 m) := fun x => x.h.cell (Joins.cell_of_block hb 1) id
  have z2 : ∀ x : Later u, x.w.cell? ⟨g0, 2, none⟩ = some (.int .i64 d) := fun x => x.h.cell (Joins.cell_of_block hb 2) id
  have z3 : ∀ x : Later u, x.w.cell? ⟨g0, 3, none⟩ = some (.int .i64 h) := fun x => x.h.cell (Joins.cell_of_block hb 3) id
  have z4 : ∀ x : Later u, x.w.cell? ⟨g0, 4, none⟩ = some (.int .i64 i) := fun x => x.h.cell (Joins.cell_of_block hb 4) id
  have z5 : ∀ x : Later u, x.w.cell? ⟨g0, 5, none⟩ = some (.int .i64 s) := fun x => x.h.cell (Joins.cell_of_block hb 5) id
  refine wp_region_later (by kernel_rfl) (by kernel_rfl) ?_
  repeat (go_big_quiet_step ((go_at_call 57; exact Calls.later (HD.out _))))
  refine wpQuiet_nil ?_
  rintro v ⟨x, hx⟩
  have hv := x.h
  rw [← hx] at hv
  clear hx
  go_wp2_with fail
  go_ret2
  exact ⟨by rw [HT.out]; rfl, HU.out.trans' hv⟩
set_option maxRecDepth 100000 in
set_option maxHeartbeats 4000000 in
theorem seconds_bad (w : World) :
    Calls Tryd.prog 41 #[dval 1980 0 0 0 0 0] w (fun x w' => x = .returned (.tuple #[.int .i64 0, .bool false]) ∧ Only (fun _ => False) w w') := by
  have hO1 := (Only.refl (fun _ => False) w).alloc (.cells (drow 1980 0 0 0 0 0) 53)
  have hB1 := alloc_new w (.cells (drow 1980 0 0 0 0 0) 53)
  obtain ⟨g0, hg0⟩ : ∃ g0, w.heap.size = g0 := ⟨_, rfl⟩
  obtain ⟨W, hW⟩ : ∃ W, w.alloc (.cells (drow 1980 0 0 0 0 0) 53) = W := ⟨_, rfl⟩
  have HGW := Lib.hid (And.intro hg0 hW)
  rw [hg0, hW] at hB1
  rw [hW] at hO1
  have HO := Lib.hid hO1
  have HB := Lib.hid hB1
  have x0 : ∀ x : Later W, x.w.cell? ⟨g0, 0, none⟩ = some (.int .i64 1980) := fun x => x.h.cell (Joins.cell_of_block HB.out 0) id
  have x1 : ∀ x : Later W, x.w.cell? ⟨g0, 1, none⟩ = some (.int .i64 0) := fun x => x.h.cell (Joins.cell_of_block HB.out 1) id
  clear hg0 hW hO1 hB1
  go_enter Tryd.func41, Tryd.ntmps41
  go_upto_region 1 with (fail)
  change Code.wp Tryd.prog _ _ _ (w.alloc (.cells (drow 1980 0 0 0 0 0) 53))
  rw [HGW.out.2, HGW.out.1]
  refine wp_region_later (by kernel_rfl) (by kernel_rfl) ?_
  repeat (go_big_quiet_step (fail))
  refine wpQuiet_nil ?_
  rintro u ⟨x, hx⟩
  have hu := x.h
  rw [← hx] at hu
  clear hx
  clear x0 x1
  go_wp2_with fail
  go_ret2
  exact ⟨rfl, HO.out.trans' hu⟩
/-- A DOS date and time; t: half the seconds. -/
def packL (y m d h i t : Int) : Int := ((y - 1980) * 512 + m * 32 + d) * 65536 + h * 2048 + i * 32 + t
set_option maxRecDepth 100000 in
set_option maxHeartbeats 4000000 in
theorem fromDos_ok (y m d h i t : Int) (w : World) (hk : DOk y m d h i (t * 2)) :
    Calls Tryd.prog 22 #[.int .i64 (packL y m d h i t)] w (fun x w' => x = .returned (.float .f64 (floatOfInt .f64 (secL y m d h i (t * 2)))) ∧ Only (fun _ => False) w w') := by
  have HS := Lib.hid (fun u => seconds_ok y m d h i (t * 2) u hk)
  obtain ⟨⟨y0, y1⟩, ⟨m0, m1⟩, ⟨d0, d1⟩, ⟨h0, h1⟩, ⟨i0, i1⟩, ⟨s0, s1⟩, d2⟩ := hk
  have v0 : 0 ≤ packL y m d h i t := by unfold packL; omega
  have v1 : packL y m d h i t ≤ 4294967295 := by unfold packL; omega
  have e0 : 1980 + packL y m d h i t / 33554432 = y := by unfold packL; omega
  have e1 : Go.bits .and .i64 (packL y m d h i t / 2097152) 15 = m := by rw [and15_i64]; unfold packL; omega
  have e2 : Go.bits .and .i64 (packL y m d h i t / 65536) 31 = d := by rw [and31_i64]; unfold packL; omega
  have e3 : Go.bits .and .i64 (packL y m d h i t / 2048) 31 = h := by rw [and31_i64]; unfold packL; omega
  have e4 : Go.bits .and .i64 (packL y m d h i t / 32) 63 = i := by rw [and63_i64]; unfold packL; omega
  have e5 : Go.bits .and .i64 (packL y m d h i t) 31 = t := by rw [and31_i64]; unfold packL; omega
  obtain ⟨v, hv⟩ : ∃ v, packL y m d h i t = v := ⟨_, rfl⟩
  rw [hv] at v0 v1 e0 e1 e2 e3 e4 e5 ⊢
  have q0 : decide (v < 0) = false := decide_eq_false (by omega)
  have q1 : decide (v > 4294967295) = false := decide_eq_false (by omega)
  obtain ⟨s, hs⟩ : ∃ s, secL y m d h i (t * 2) = s := ⟨_, rfl⟩
  rw [hs] at HS ⊢
  have t0 : 0 ≤ t := by omega
  have t1 : t ≤ 31 := by omega
  clear hs hv y0 y1 m0 m1 d0 d1 h0 h1 i0 i1 s0 s1 d2
  go_enter Tryd.func22, Tryd.ntmps22
  go_wp2_with (go_at_call 41; refine (HS.out _).mono ?_; rintro x w1 ⟨rfl, h1⟩; have H1 := Lib.hid h1; clear h1)
  go_ret
  exact ⟨rfl, H1.out⟩
set_option maxRecDepth 100000 in
set_option maxHeartbeats 4000000 in
theorem fromDos_none (w : World) :
    Calls Tryd.prog 22 #[.int .i64 0] w (fun x w' => x = .returned (.float .f64 nanW) ∧ Only (fun _ => False) w w') := by
  have HS := Lib.hid (fun u => seconds_bad u)
  have HNa := Lib.hid (fun u => nan_any u)
  obtain ⟨v, hv⟩ : ∃ v : Int, v = 0 := ⟨_, rfl⟩
  rw [← hv]
  have e0 : 1980 + v / 33554432 = 1980 := by omega
  have e1 : Go.bits .and .i64 (v / 2097152) 15 = 0 := by rw [and15_i64]; omega
  have e2 : Go.bits .and .i64 (v / 65536) 31 = 0 := by rw [and31_i64]; omega
  have e3 : Go.bits .and .i64 (v / 2048) 31 = 0 := by rw [and31_i64]; omega
  have e4 : Go.bits .and .i64 (v / 32) 63 = 0 := by rw [and63_i64]; omega
  have e5 : Go.bits .and .i64 v 31 = 0 := by rw [and31_i64]; omega
  have v0 : 0 ≤ v := by omega
  have v1 : v ≤ 100 := by omega
  have q0 : decide (v < 0) = false := decide_eq_false (by omega)
  have q1 : decide (v > 4294967295) = false := decide_eq_false (by omega)
  clear hv
  go_enter Tryd.func22, Tryd.ntmps22
  go_wp2_with (first
    | (go_at_call 41; refine (HS.out _).mono ?_; rintro x w1 ⟨rfl, h1⟩; have H1 := Lib.hid h1; clear h1)
    | (go_at_call 27; (with_reducible refine (HNa.out _).mono ?_); rintro x w2 ⟨rfl, rfl⟩))
  go_ret
  exact ⟨rfl, H1.out⟩
end Go.Proofs.YtdkfemmjoabbcaaDoor.Walks
