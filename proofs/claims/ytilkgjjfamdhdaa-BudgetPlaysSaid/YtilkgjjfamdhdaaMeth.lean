/- Contracts of the budget's methods. -/
import Derived.Test.YtilkgjjfamdhdaaWalks
namespace Go.Proofs.Ytilkgjjfamdhdaa.Walks
open Go Go.RowKit Go.Proofs.Ytilkgjjfamdhdaa.Aid

section
variable {w : World} {g : Nat} {e t n p : Int} {r : Nat} {en to ow : Int}
theorem bud_cells (h : w.heap[g]? = some (bud e t n p r en to ow)) : w.cell? ⟨g, 0, none⟩ = some (.int .i64 e) ∧ w.cell? ⟨g, 1, none⟩ = some (.int .i64 t) ∧ w.cell? ⟨g, 2, none⟩ = some (.int .i64 n) ∧ w.cell? ⟨g, 3, none⟩ = some (.int .i64 p) ∧ w.cell? ⟨g, 5, none⟩ = some (.int .i64 en) ∧ w.cell? ⟨g, 6, none⟩ = some (.int .i64 to) ∧ w.cell? ⟨g, 7, none⟩ = some (.int .i64 ow) := by
  unfold bud at h
  refine ⟨?_, ?_, ?_, ?_, ?_, ?_, ?_⟩ <;> rw [Joins.cell_of_block h] <;> rfl
theorem bud_free (h : w.heap[g]? = some (bud e t n p r en to ow)) (i : Nat) : w.frozen? ⟨g, i, none⟩ = false := Joins.unfrozen_of_block h i
end
def beginC (p n en k : Int) : Int := if p < k ∨ en ≥ n then 3 else 0
def BeginPost (g : Nat) (e t n p : Int) (r : Nat) (en to ow k : Int) (w : World) (x : Ending) (w' : World) : Prop :=
  x = .returned (.int .i64 (beginC p n en k)) ∧ w'.heap[g]? = some (if beginC p n en k = 0 then bud e t n p r (en + 1) to 0 else bud e t n p r en to ow) ∧ Only (· = g) w w'
theorem begin_any (g : Nat) (e t n p : Int) (r : Nat) (en to ow k : Int) (w : World) (hb : w.heap[g]? = some (bud e t n p r en to ow)) (h0 : 0 ≤ en) (h1 : en ≤ 1048576) :
    Calls Try.prog 15 #[.pointer (some ⟨g, 0, none⟩), .int .i64 k] w (BeginPost g e t n p r en to ow k w) := by
  obtain ⟨c0, c1, c2, c3, c5, c6, c7⟩ := bud_cells hb
  have f5 := bud_free hb 5
  have f7 := bud_free hb 7
  have HB := Lib.hid hb
  clear hb c0 c1 c6
  by_cases d1 : p < k
  · have hB : beginC p n en k = 3 := by unfold beginC; rw [if_pos (Or.inl d1)]
    go_enter Try.func15, Try.ntmps15
    go_wp2_with fail
    go_quiet (fail)
    go_wp2_with fail
    go_ret
    unfold BeginPost
    rw [hB]
    exact ⟨rfl, HB.out, (Only.refl _ _).drewN _⟩
  · have d1' : decide (p < k) = false := by simpa using d1
    by_cases d2 : en ≥ n
    · have d2' : decide (en ≥ n) = true := by simpa using d2
      have hB : beginC p n en k = 3 := by unfold beginC; rw [if_pos (Or.inr d2)]
      go_enter Try.func15, Try.ntmps15
      go_wp2_with fail
      go_quiet (fail)
      go_wp2_with fail
      go_ret
      unfold BeginPost
      rw [hB]
      exact ⟨rfl, HB.out, (Only.refl _ _).drewN _⟩
    · have d2' : decide (en ≥ n) = false := by simpa using d2
      have hB : beginC p n en k = 0 := by unfold beginC; rw [if_neg (by omega)]
      go_enter Try.func15, Try.ntmps15
      go_wp2_with fail
      go_quiet (fail)
      go_wp2_with fail
      go_ret
      unfold BeginPost
      rw [hB]
      refine ⟨rfl, ?_, ?_⟩
      · exact Joins.block_setCell (Joins.block_setCell HB.out _) _
      · exact ((((Only.refl (· = g) _).drewN _).setCell (S := (· = g)) (p := ⟨g, 5, none⟩) (Or.inl rfl) _).setCell (S := (· = g)) (p := ⟨g, 7, none⟩) (Or.inl rfl) _)
theorem ret_int {k : IntKind} {a b : Int} (h : a = b) : Ending.returned (.int k a) = .returned (.int k b) := by rw [h]
def roomC (e t en to ow : Int) : Int := if en = 0 then 0 else if e - ow < t - to then e - ow else t - to
theorem room_any (g : Nat) (e t n p : Int) (r : Nat) (en to ow : Int) (w : World) (hb : w.heap[g]? = some (bud e t n p r en to ow)) (he : 0 ≤ e ∧ e ≤ 1073741824) (ht : 0 ≤ t ∧ t ≤ 1073741824) (hto : 0 ≤ to ∧ to ≤ t) (how : 0 ≤ ow ∧ ow ≤ e) :
    Calls Try.prog 16 #[.pointer (some ⟨g, 0, none⟩)] w fun x w' => x = .returned (.int .i64 (roomC e t en to ow)) ∧ ∃ m, w' = w.drewN m := by
  obtain ⟨c0, c1, c2, c3, c5, c6, c7⟩ := bud_cells hb
  clear hb
  by_cases d : en = 0
  · have d' : (en == 0) = true := by simpa using d
    have hR : roomC e t en to ow = 0 := by unfold roomC; rw [if_pos d]
    clear d
    rw [hR]
    go_enter Try.func16, Try.ntmps16
    go_wp2_with fail
    go_ret
    exact ⟨rfl, 0, rfl⟩
  · have d' : (en == 0) = false := by simpa using d
    have hR : roomC e t en to ow = if e - ow < t - to then e - ow else t - to := by unfold roomC; rw [if_neg d]
    clear d
    have m1 : IntKind.i64.wrap (e - ow) = e - ow := by rw [IntKind.wrap_i64]; omega
    have m2 : IntKind.i64.wrap (t - to) = t - to := by rw [IntKind.wrap_i64]; omega
    have HR := Lib.hid hR
    clear hR
    go_enter Try.func16, Try.ntmps16
    go_wp2_with fail
    go_quiet (fail)
    go_wp2_with fail
    all_goals go_ret
    all_goals exact ⟨ret_int (by rw [HR.out]; split <;> omega), _, rfl⟩
def dataC (e t en to ow k : Int) : Int := if k < 0 then 1 else if k > roomC e t en to ow then 3 else 0
def DataPost (g : Nat) (e t n p : Int) (r : Nat) (en to ow k : Int) (w : World) (x : Ending) (w' : World) : Prop :=
  x = .returned (.int .i64 (dataC e t en to ow k)) ∧ w'.heap[g]? = some (if dataC e t en to ow k = 0 then bud e t n p r en (to + k) (ow + k) else bud e t n p r en to ow) ∧ Only (· = g) w w'
theorem roomC_le (e t en to ow : Int) (ht : 0 ≤ t ∧ t ≤ 1073741824) (hto : 0 ≤ to ∧ to ≤ t) : roomC e t en to ow ≤ 1073741824 := by unfold roomC; split; omega; split <;> omega
set_option maxHeartbeats 1000000 in
theorem data_any (g : Nat) (e t n p : Int) (r : Nat) (en to ow k : Int) (w : World) (hb : w.heap[g]? = some (bud e t n p r en to ow)) (he : 0 ≤ e ∧ e ≤ 1073741824) (ht : 0 ≤ t ∧ t ≤ 1073741824) (hto : 0 ≤ to ∧ to ≤ t) (how : 0 ≤ ow ∧ ow ≤ e) :
    Calls Try.prog 18 #[.pointer (some ⟨g, 0, none⟩), .int .i64 k] w (DataPost g e t n p r en to ow k w) := by
  obtain ⟨c0, c1, c2, c3, c5, c6, c7⟩ := bud_cells hb
  have HC := Lib.hid (room_any g e t n p r en to ow w hb he ht hto how)
  have HL := Lib.hid (roomC_le e t en to ow ht hto)
  have f6 := bud_free hb 6
  have f7 := bud_free hb 7
  have HB := Lib.hid hb
  clear hb c0 c1 c2 c3 c5
  by_cases d1 : k < 0
  · have HD := Lib.hid (show dataC e t en to ow k = 1 by unfold dataC; rw [if_pos d1])
    go_enter Try.func18, Try.ntmps18
    go_wp2_with fail
    go_ret
    unfold DataPost
    rw [HD.out]
    exact ⟨rfl, HB.out, Only.refl _ _⟩
  · have d1' : decide (k < 0) = false := by simpa using d1
    by_cases d2 : k > roomC e t en to ow
    · have HD := Lib.hid (show dataC e t en to ow k = 3 by unfold dataC; rw [if_neg d1, if_pos d2])
      go_enter Try.func18, Try.ntmps18
      go_wp2_with fail
      go_at_call 16
      refine HC.out.mono ?_
      rintro x w' ⟨rfl, m, rfl⟩
      go_wp2_with fail
      go_ret
      unfold DataPost
      rw [HD.out]
      exact ⟨rfl, HB.out, (Only.refl _ _).drewN _⟩
    · have d2' : decide (k > roomC e t en to ow) = false := by simpa using d2
      have HD := Lib.hid (show dataC e t en to ow k = 0 by unfold dataC; rw [if_neg d1, if_neg d2])
      have m1 : IntKind.i64.wrap (ow + k) = ow + k := by have := HL.out; rw [IntKind.wrap_i64]; omega
      have m2 : IntKind.i64.wrap (to + k) = to + k := by have := HL.out; rw [IntKind.wrap_i64]; omega
      go_enter Try.func18, Try.ntmps18
      go_wp2_with fail
      go_at_call 16
      refine HC.out.mono ?_
      rintro x w' ⟨rfl, m, rfl⟩
      go_wp2_with fail
      go_region
      go_wp2_with fail
      go_ret
      unfold DataPost
      rw [HD.out]
      refine ⟨rfl, ?_, ?_⟩
      · exact Joins.block_setCell (w := (w.drewN (m + 1)).setCell ⟨g, 7, none⟩ (.int .i64 (ow + k))) (Joins.block_setCell (w := w.drewN (m + 1)) HB.out _) _
      · exact ((((Only.refl (· = g) _).drewN _).setCell (S := (· = g)) (p := ⟨g, 7, none⟩) (Or.inl rfl) _).setCell (S := (· = g)) (p := ⟨g, 6, none⟩) (Or.inl rfl) _)
def entriesC (en : Int) : Int := en
theorem entries_any (g : Nat) (e t n p : Int) (r : Nat) (en to ow : Int) (w : World) (hb : w.heap[g]? = some (bud e t n p r en to ow)) :
    Calls Try.prog 21 #[.pointer (some ⟨g, 0, none⟩)] w fun x w' => x = .returned (.int .i64 en) ∧ w = w' := by
  obtain ⟨c0, c1, c2, c3, c5, c6, c7⟩ := bud_cells hb
  clear hb c0 c1 c2 c3 c6 c7
  go_enter Try.func21, Try.ntmps21
  go_wp2_with fail
  go_ret
  exact ⟨rfl, rfl⟩
theorem total_any (g : Nat) (e t n p : Int) (r : Nat) (en to ow : Int) (w : World) (hb : w.heap[g]? = some (bud e t n p r en to ow)) :
    Calls Try.prog 22 #[.pointer (some ⟨g, 0, none⟩)] w fun x w' => x = .returned (.int .i64 to) ∧ w = w' := by
  obtain ⟨c0, c1, c2, c3, c5, c6, c7⟩ := bud_cells hb
  clear hb c0 c1 c2 c3 c5 c7
  go_enter Try.func22, Try.ntmps22
  go_wp2_with fail
  go_ret
  exact ⟨rfl, rfl⟩
end Go.Proofs.Ytilkgjjfamdhdaa.Walks
