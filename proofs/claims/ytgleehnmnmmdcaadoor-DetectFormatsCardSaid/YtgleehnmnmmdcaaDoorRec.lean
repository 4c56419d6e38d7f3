/- Contracts of the closure that num.read defers. -/
import Derived.Test.YtgleehnmnmmdcaaDoorRed
namespace Go.Proofs.YtgleehnmnmmdcaaDoor.Walks
open Go Go.RowKit Go.Proofs.YtgleehnmnmmdcaaDoor.Aid Go.Proofs.YtgleehnmnmmdcaaDoor.Own

theorem ta_nil (w : World) : (Instr.typeAssert Value.nilIface 20 63 true).run Tryd.prog w = .ok (.tuple #[.agg #[.int .i64 0, .int .i64 0], .bool false]) w := by kernel_rfl
theorem ta_fault (n : Int) (w : World) : (Instr.typeAssert (.iface 63 (.agg #[.int .i64 n, .int .i64 0])) 20 63 true).run Tryd.prog w = .ok (.tuple #[.agg #[.int .i64 n, .int .i64 0], .bool true]) w := by kernel_rfl
set_option maxHeartbeats 2000000 in
theorem catch_idle (p q : Addr) (w : World) : CallsD Tryd.prog 37 #[.pointer (some p), .pointer (some q)] .returning w fun e u' w' => e = .returned (.tuple #[]) ∧ u' = .returning ∧ w' = w.alloc (.cells #[.int .i64 0, .int .i64 0] 63) := by
  refine callsD_of_wpS Tryd.func37 rfl fun c₀ cs hu => ?_
  apply wpS_seq
  apply wpS_region
  simp [wpOpsS, go_sem, recoverD, hu, Tryd.ntmps37, Exit.thenS, ta_nil]
  apply wpS_seq
  apply wpS_region
  simp [wpOpsS, go_sem, Exit.thenS]
  refine wpS_cond (t := false) (by simp [Act.eval, Array.replicate]) ?_
  simp only [Bool.false_eq_true, if_false]
  refine wpS_of_wp (wp_skip ?_)
  cases c₀
  simp_all [bodyPostS, results, Tryd.results37]
set_option maxHeartbeats 2000000 in
theorem catch_panicking (a b : Nat) (x y n : Int) (older : List PanicEntry) (w : World) (hab : ¬ a = b) (hp : w.cell? ⟨a, 0, none⟩ = some (.int .u64 x)) (hq : w.cell? ⟨b, 0, none⟩ = some (.int .i64 y)) (fp : w.frozen? ⟨a, 0, none⟩ = false) (fq : w.frozen? ⟨b, 0, none⟩ = false) :
    CallsD Tryd.prog 37 #[.pointer (some ⟨a, 0, none⟩), .pointer (some ⟨b, 0, none⟩)] (.panicking ({ v := .iface 63 (.agg #[.int .i64 n, .int .i64 0]), recovered := false } :: older)) w fun e u' w' =>
      e = .returned (.tuple #[]) ∧ u' = .panicking ({ v := .iface 63 (.agg #[.int .i64 n, .int .i64 0]), recovered := true } :: older) ∧
      w' = (((w.alloc (.cells #[.int .i64 n, .int .i64 0] 63)).setCell ⟨a, 0, none⟩ (.int .u64 0)).setCell ⟨b, 0, none⟩ (.int .i64 n)).drew := by
  have hb := (Below.refl w.heap.size w).alloc (Nat.le_refl _) (.cells #[.int .i64 n, .int .i64 0] 63)
  have lp := World.block_lt_of_cell? w _ hp
  have lq := World.block_lt_of_cell? w _ hq
  have hp' := (hb.cell lp).trans hp
  have hq' := (hb.cell lq).trans hq
  have fp' := (hb.frozen lp).trans fp
  have fq' := (hb.frozen lq).trans fq
  have hz := alloc_new w (.cells #[.int .i64 n, .int .i64 0] 63)
  have c0 : (w.alloc (.cells #[.int .i64 n, .int .i64 0] 63)).cell? ⟨w.heap.size, 0, none⟩ = _ := Joins.cell_of_block hz 0
  simp only [List.getElem?_toArray, List.getElem?_cons_zero] at c0
  refine callsD_of_wpS Tryd.func37 rfl fun c₀ cs hu => ?_
  apply wpS_seq
  apply wpS_region
  simp [wpOpsS, go_sem, recoverD, hu, Tryd.ntmps37, Exit.thenS, ta_fault]
  apply wpS_seq
  apply wpS_region
  simp [wpOpsS, go_sem, Exit.thenS]
  refine wpS_cond (t := true) (by simp [Act.eval, Array.replicate]) ?_
  simp only [if_true]
  refine wpS_of_wp ?_
  generalize w.alloc (.cells #[.int .i64 n, .int .i64 0] 63) = w1 at *
  generalize w.heap.size = g at *
  have ha : ¬ a = g := fun e => by subst e; exact Nat.lt_irrefl _ lp
  have hb2 : ¬ b = g := fun e => by subst e; exact Nat.lt_irrefl _ lq
  have hba : ¬ b = a := fun e => hab e.symm
  clear hb hz hp hq fp fq lp lq
  simp [Array.replicate]
  go_region
  simp [bodyPostS, results, Tryd.results37]
end Go.Proofs.YtgleehnmnmmdcaaDoor.Walks
