/- Contracts of the reference's budget: the same numbers in memory as the program's, in a struct of another type. -/
import Derived.Test.YtilkgjjfamdhdaaTold
namespace Go.Proofs.Ytilkgjjfamdhdaa.Walks
open Go Go.RowKit Go.Proofs.Ytilkgjjfamdhdaa.Aid

theorem limits_any (e t n p : Int) (r : Nat) (w : World) : Calls Try.prog 14 #[lim e t n p r] w fun en w' => en = .returned (.bool (mayB e t n p)) ∧ Below w.heap.size w w' := by
  go_enter Try.func14, Try.ntmps14
  go_wp2_with fail
  all_goals go_ret
  all_goals exact ⟨by (first | (simp [mayB, withinB, *]; done) | (simp [mayB, withinB, *]; omega)), (Below.refl _ _).alloc (Nat.le_refl _) _⟩
def rbud (e t n p : Int) (r : Nat) (en to ow : Int) : Obj := .cells #[.int .i64 e, .int .i64 t, .int .i64 n, .int .i64 p, .float .f64 r, .int .i64 en, .int .i64 to, .int .i64 ow] 39 (0, 0)
section
variable {w : World} {g : Nat} {e t n p : Int} {r : Nat} {en to ow : Int}
theorem rbud_cells (h : w.heap[g]? = some (rbud e t n p r en to ow)) : w.cell? ⟨g, 0, none⟩ = some (.int .i64 e) ∧ w.cell? ⟨g, 1, none⟩ = some (.int .i64 t) ∧ w.cell? ⟨g, 2, none⟩ = some (.int .i64 n) ∧ w.cell? ⟨g, 3, none⟩ = some (.int .i64 p) ∧ w.cell? ⟨g, 5, none⟩ = some (.int .i64 en) ∧ w.cell? ⟨g, 6, none⟩ = some (.int .i64 to) ∧ w.cell? ⟨g, 7, none⟩ = some (.int .i64 ow) := by
  unfold rbud at h
  refine ⟨?_, ?_, ?_, ?_, ?_, ?_, ?_⟩ <;> rw [Joins.cell_of_block h] <;> rfl
theorem rbud_free (h : w.heap[g]? = some (rbud e t n p r en to ow)) (i : Nat) : w.frozen? ⟨g, i, none⟩ = false := Joins.unfrozen_of_block h i
end
def RBeginPost (g : Nat) (e t n p : Int) (r : Nat) (en to ow k : Int) (w : World) (x : Ending) (w' : World) : Prop :=
  x = .returned (.int .i64 (beginC p n en k)) ∧ Hid (w'.heap[g]? = some (if beginC p n en k = 0 then rbud e t n p r (en + 1) to 0 else rbud e t n p r en to ow)) ∧ Only (· = g) w w'
def RDataPost (g : Nat) (e t n p : Int) (r : Nat) (en to ow k : Int) (w : World) (x : Ending) (w' : World) : Prop :=
  x = .returned (.int .i64 (dataC e t en to ow k)) ∧ Hid (w'.heap[g]? = some (if dataC e t en to ow k = 0 then rbud e t n p r en (to + k) (ow + k) else rbud e t n p r en to ow)) ∧ Only (· = g) w w'
theorem rbegin_at (g : Nat) (e t n p : Int) (r : Nat) (en to ow k : Int) (w : World) (hb : w.heap[g]? = some (rbud e t n p r en to ow)) (h0 : 0 ≤ en) (h1 : en ≤ 1048576) :
    Calls Try.prog 17 #[.pointer (some ⟨g, 0, none⟩), .int .i64 k] w (RBeginPost g e t n p r en to ow k w) := by
  obtain ⟨c0, c1, c2, c3, c5, c6, c7⟩ := rbud_cells hb
  have f5 := rbud_free hb 5
  have f7 := rbud_free hb 7
  have HB := Lib.hid hb
  clear hb c0 c1 c6
  by_cases d1 : k > p
  · have hB := Lib.hid (beginC_no (p := p) (n := n) (en := en) (k := k) (Or.inl d1))
    go_enter Try.func17, Try.ntmps17
    go_wp2_with fail
    go_quiet (fail)
    go_wp2_with fail
    go_ret
    unfold RBeginPost
    rw [hB.out]
    exact ⟨rfl, Lib.hid HB.out, (Only.refl _ _).drewN _⟩
  · have d1' : decide (k > p) = false := by simpa using d1
    by_cases d2 : en ≥ n
    · have d2' : decide (en ≥ n) = true := by simpa using d2
      have hB := Lib.hid (beginC_no (p := p) (n := n) (en := en) (k := k) (Or.inr d2))
      go_enter Try.func17, Try.ntmps17
      go_wp2_with fail
      go_quiet (fail)
      go_wp2_with fail
      go_ret
      unfold RBeginPost
      rw [hB.out]
      exact ⟨rfl, Lib.hid HB.out, (Only.refl _ _).drewN _⟩
    · have d2' : decide (en ≥ n) = false := by simpa using d2
      have hB := Lib.hid (beginC_ok (p := p) (n := n) (en := en) (k := k) (by omega))
      go_enter Try.func17, Try.ntmps17
      go_wp2_with fail
      go_quiet (fail)
      go_wp2_with fail
      go_ret
      unfold RBeginPost
      rw [hB.out]
      refine ⟨rfl, ?_, ?_⟩
      · exact Lib.hid (Joins.block_setCell (Joins.block_setCell HB.out _) _)
      · exact ((((Only.refl (· = g) _).drewN _).setCell (S := (· = g)) (p := ⟨g, 5, none⟩) (Or.inl rfl) _).setCell (S := (· = g)) (p := ⟨g, 7, none⟩) (Or.inl rfl) _)
theorem rroom_any (g : Nat) (e t n p : Int) (r : Nat) (en to ow : Int) (w : World) (hb : w.heap[g]? = some (rbud e t n p r en to ow)) (he : 0 ≤ e ∧ e ≤ 1073741824) (ht : 0 ≤ t ∧ t ≤ 1073741824) (hto : 0 ≤ to ∧ to ≤ t) (how : 0 ≤ ow ∧ ow ≤ e) :
    Calls Try.prog 20 #[.pointer (some ⟨g, 0, none⟩)] w fun x w' => x = .returned (.int .i64 (roomC e t en to ow)) ∧ ∃ m, w' = w.drewN m := by
  obtain ⟨c0, c1, c2, c3, c5, c6, c7⟩ := rbud_cells hb
  clear hb
  by_cases d : en = 0
  · have d' : (en == 0) = true := by simpa using d
    have hR := roomC_zero (e := e) (t := t) (su := to) (ow := ow) d
    clear d
    rw [hR]
    go_enter Try.func20, Try.ntmps20
    go_wp2_with fail
    go_ret
    exact ⟨rfl, 0, rfl⟩
  · have d' : (en == 0) = false := by simpa using d
    have HR := Lib.hid (roomC_pos (e := e) (t := t) (su := to) (ow := ow) d)
    clear d
    have m1 : IntKind.i64.wrap (e - ow) = e - ow := by rw [IntKind.wrap_i64]; omega
    have m2 : IntKind.i64.wrap (t - to) = t - to := by rw [IntKind.wrap_i64]; omega
    go_enter Try.func20, Try.ntmps20
    go_wp2_with fail
    go_quiet (fail)
    go_wp2_with fail
    all_goals go_ret
    all_goals exact ⟨ret_int (by rw [HR.out]; split <;> omega), _, rfl⟩
set_option maxHeartbeats 1000000 in
theorem rdata_at (g : Nat) (e t n p : Int) (r : Nat) (en to ow k : Int) (w : World) (hb : w.heap[g]? = some (rbud e t n p r en to ow)) (he : 0 ≤ e ∧ e ≤ 1073741824) (ht : 0 ≤ t ∧ t ≤ 1073741824) (hto : 0 ≤ to ∧ to ≤ t) (how : 0 ≤ ow ∧ ow ≤ e) :
    Calls Try.prog 19 #[.pointer (some ⟨g, 0, none⟩), .int .i64 k] w (RDataPost g e t n p r en to ow k w) := by
  obtain ⟨c0, c1, c2, c3, c5, c6, c7⟩ := rbud_cells hb
  have HC := Lib.hid (rroom_any g e t n p r en to ow w hb he ht hto how)
  have HL := Lib.hid (roomC_le e t en to ow ht hto)
  have f6 := rbud_free hb 6
  have f7 := rbud_free hb 7
  have HB := Lib.hid hb
  clear hb c0 c1 c2 c3 c5
  by_cases d1 : k < 0
  · have HD := Lib.hid (show dataC e t en to ow k = 1 by unfold dataC; rw [if_pos d1])
    go_enter Try.func19, Try.ntmps19
    go_wp2_with fail
    go_ret
    unfold RDataPost
    rw [HD.out]
    exact ⟨rfl, Lib.hid HB.out, Only.refl _ _⟩
  · have d1' : decide (k < 0) = false := by simpa using d1
    by_cases d2 : k > roomC e t en to ow
    · have HD := Lib.hid (show dataC e t en to ow k = 3 by unfold dataC; rw [if_neg d1, if_pos d2])
      go_enter Try.func19, Try.ntmps19
      go_wp2_with fail
      go_at_call 20
      refine HC.out.mono ?_
      rintro x w' ⟨rfl, m, rfl⟩
      go_wp2_with fail
      go_ret
      unfold RDataPost
      rw [HD.out]
      exact ⟨rfl, Lib.hid HB.out, (Only.refl _ _).drewN _⟩
    · have d2' : decide (k > roomC e t en to ow) = false := by simpa using d2
      have HD := Lib.hid (show dataC e t en to ow k = 0 by unfold dataC; rw [if_neg d1, if_neg d2])
      have m1 : IntKind.i64.wrap (ow + k) = ow + k := by have := HL.out; rw [IntKind.wrap_i64]; omega
      have m2 : IntKind.i64.wrap (to + k) = to + k := by have := HL.out; rw [IntKind.wrap_i64]; omega
      go_enter Try.func19, Try.ntmps19
      go_wp2_with fail
      go_at_call 20
      refine HC.out.mono ?_
      rintro x w' ⟨rfl, m, rfl⟩
      go_wp2_with fail
      go_region
      go_wp2_with fail
      go_ret
      unfold RDataPost
      rw [HD.out]
      refine ⟨rfl, ?_, ?_⟩
      · exact Lib.hid (Joins.block_setCell (w := (w.drewN (m + 1)).setCell ⟨g, 6, none⟩ (.int .i64 (to + k))) (Joins.block_setCell (w := w.drewN (m + 1)) HB.out _) _)
      · exact ((((Only.refl (· = g) _).drewN _).setCell (S := (· = g)) (p := ⟨g, 6, none⟩) (Or.inl rfl) _).setCell (S := (· = g)) (p := ⟨g, 7, none⟩) (Or.inl rfl) _)
/-! ### The program's methods of no budget -/
theorem begin_nil (k : Int) (w : World) : Calls Try.prog 15 #[.pointer none, .int .i64 k] w fun x w' => x = .returned (.int .i64 1) ∧ w = w' := by
  go_enter Try.func15, Try.ntmps15
  go_wp2_with fail
  go_ret
  exact ⟨rfl, rfl⟩
theorem room_nil (w : World) : Calls Try.prog 16 #[.pointer none] w fun x w' => x = .returned (.int .i64 0) ∧ w = w' := by
  go_enter Try.func16, Try.ntmps16
  go_wp2_with fail
  go_ret
  exact ⟨rfl, rfl⟩
end Go.Proofs.Ytilkgjjfamdhdaa.Walks
