/- What the table's function comes to. -/
import Derived.Test.YtoiagpebfkignaaArr
namespace Go.Proofs.Ytoiagpebfkignaa.Walks
open Go Go.RowKit Go.Proofs.Ytoiagpebfkignaa.Aid Go.Proofs.Ytoiagpebfkignaa.Plain

def TabPost (w : World) (e : Ending) (w' : World) : Prop := (∃ C, e = .returned (.agg C) ∧ Are C 256 tab) ∧ Only (fun _ => False) w w'
theorem info36 : (Try.prog.info? 36).map (fun i => (i.zero, i.size)) = some (some (.agg (Array.replicate 256 (.int .u32 0))), 256) := by kernel_rfl
theorem zero36 (w : World) : (zeroValue 36).run Try.prog w = .ok (.agg (Array.replicate 256 (.int .u32 0))) w := (zero_of_info info36).1 w
theorem size36 : (Try.prog.info? 36).map (·.size) = some 256 := (zero_of_info info36).2
theorem row36 : Try.prog.underlying 36 = some (.array 256 22) := by kernel_rfl
attribute [local go_sem] zero36
def part (i : Nat) (j : Nat) : BitVec 32 := if j < i then tab j else 0#32
theorem step0_any (i : Nat) (hi : i < 256) (w : World) : Calls Try.prog 15 #[.int .u32 0, .int .u8 (i : Int)] w (fun e w' => e = .returned (.int .u32 (nu (tab i))) ∧ ∃ n, w' = w.drewN n) := by
  refine (step_any 0#32 (i : Int) (by omega) (by omega) w).mono ?_
  rintro e w' ⟨rfl, h⟩
  refine ⟨?_, h⟩
  unfold stpc tab
  rw [b32_nat, BitVec.zero_xor]
def TabRel (w : World) (v3 : Value) (u : World) : Prop := ∃ i : Nat, v3 = .int .i64 (i : Int) ∧ i ≤ 256 ∧ ArrAt u (w.heap.size + 1) 36 256 (part i) ∧ ArrAt u w.heap.size 36 256 (fun _ => 0#32) ∧ Only (fun _ => False) w u
set_option maxHeartbeats 1000000 in
theorem table_any (w : World) : Calls Try.prog 16 #[] w (TabPost w) := by
  go_enter Try.func16, Try.ntmps16
  go_wp2_with fail
  go_loopw [3] (fun v3 w' => TabRel w v3 w') (fun i _ => 256 - (intOf i).toNat)
  case atStart =>
    refine ⟨0, rfl, by decide, (ArrAt.new' _ (Are.zero 256)).congr (fun j _ => rfl), ?_, ((Only.refl _ w).alloc _).alloc _⟩
    exact ⟨_, (alloc_old _ _ (by simp)).trans (alloc_new _ _), Are.zero 256⟩
  case round =>
    obtain ⟨i, rfl, hi, hA, hB, hO⟩ := hrel
    by_cases c : i < 256
    · have c1 : decide ((i : Int) < 256) = true := by simpa using (show (i : Int) < 256 by omega)
      have e1 : (i : Int) % 256 = i := by omega
      have hc := hA.cell c
      have hf := hA.free i
      go_wp2_with fail
      go_at_call 15
      refine (step0_any i c _).mono ?_
      rintro e w' ⟨rfl, m, rfl⟩
      go_wp2_with fail
      go_roundw
      case rel =>
        refine ⟨i + 1, by simp, by omega, ?_, ?_, ?_⟩
        · refine ((hA.drewN m).set i (tab i)).congr (fun j _ => ?_)
          unfold part
          by_cases e : j = i
          · rw [if_pos e, if_pos (by omega), e]
          · rw [if_neg e]
            by_cases e2 : j < i
            · rw [if_pos e2, if_pos (by omega)]
            · rw [if_neg e2, if_neg (by omega)]
        · exact hB.keep (S := fun k => k = w.heap.size + 1) (((Only.refl (fun k => k = w.heap.size + 1) _).drewN m).setCell (S := fun k => k = w.heap.size + 1) (p := ⟨w.heap.size + 1, i, none⟩) (Or.inl rfl) _) (by omega)
        · exact (hO.drewN m).setCell (Or.inr (by show w.heap.size ≤ w.heap.size + 1; omega)) _
      case measure => simp [intOf]; omega
    · have c1 : decide ((i : Int) < 256) = false := by simpa using (show ¬ (i : Int) < 256 by omega)
      have : i = 256 := by omega
      subst this
      obtain ⟨C, hC, hE⟩ := hA
      obtain ⟨Z, hZ, hZE⟩ := hB
      go_wp2_with (first | ((with_reducible refine gate 12 rfl ?_); refine wpList_load_row rfl 36 (.tmp 1) rfl _ rfl 36 C (0, 0) _ hC row36 rfl (by rw [hE.1]; exact size36) ?_) | (refine wpList_store_row rfl 36 (.tmp 0) (.tmp 12) rfl _ C rfl rfl 36 Z hZ (by rw [hE.1]; exact size36) (by rw [hE.1, hZE.1]) hE.one ?_))
      refine bodyPost_ret (results_cell1 rfl rfl (run_loadVar_row _ _ 36 36 C (0, 0) _ (setRow_heap _ _ _ _ _ _ hZ) row36 rfl (by rw [hE.1]; exact size36))) rfl ⟨⟨C, rfl, hE.congr (fun j hj => ?_)⟩, only_setRow hO (Or.inr (Nat.le_refl _)) C⟩
      unfold part; rw [if_pos hj]
end Go.Proofs.Ytoiagpebfkignaa.Walks
