/- Slices of bytes of the call's own (literal, append), told by lists. -/
import Derived.Test.YtoiagpebfkignaaUpd
namespace Go.Proofs.Ytoiagpebfkignaa.Walks
open Go Go.RowKit Go.Proofs.Ytoiagpebfkignaa.Aid Go.Proofs.Ytoiagpebfkignaa.Plain Go.Proofs.YtoiagpebfkignaaW.PrintWords

/-- A slice of bytes in memory that was made from block 'base' on. -/
def Own (base : Nat) (w : World) (v : Value) (l : List Int) : Prop := (Kd.int .u8).R 5 w base (fun _ => True) v l
theorem Own.rd {base : Nat} {w : World} {v : Value} {l : List Int} (h : Own base w v l) : ∃ A c, v = .slice A l.length c ∧ RdK .u8 w A l := by
  obtain ⟨A, c, e, _, hc⟩ := Kd.R_reads h
  have := Kd.reads_of_C (d := (0 : Int)) hc
  exact ⟨A, c, e, this.2.2⟩
theorem RdK.kd {w : World} {A : Option Addr} {l : List Int} (h : RdK .u8 w A l) (hl : l.length ≤ 9223372036854775807) : (Kd.int .u8).C w A l.length l := Kd.C_of_reads (d := (0 : Int)) ⟨rfl, hl, h⟩
theorem Own.only {base : Nat} {w w' : World} {v : Value} {l : List Int} (h : Own base w v l) (ho : Only (fun _ => False) w w') : Own base w' v l := Kd.R_below h ho.none
theorem info5 : (Try.prog.info? 5).map (fun i => (i.zero, i.size, i.bytes)) = some (some (.int .u8 0), 1, 1) := by kernel_rfl
section
variable {ops : Array Oper} {rest : List Oper} {o : Oper} {a : Act} {Q : Exit → Act → World → Prop}
theorem own_empty {w0 W : World} {base : Nat} (hgd : o.guard = none) {N : Tmp} (hd : o.dst = some N)
    (hrun : (execOp a.eval o).run Try.prog W = .ok (.value (.slice (some ⟨W.heap.size, 0, none⟩) 0 0)) (W.alloc (.cells #[] 5)))
    (HB : Below base w0 W) (hbase : base ≤ W.heap.size) (h : ∀ v w1, Own base w1 v [] → Below base w0 w1 → W.heap.size ≤ w1.heap.size → wpList Try.prog ops Q rest (a.put o.dst v) w1) : wpList Try.prog ops Q (o :: rest) a W := by
  refine Kd.R_lit (Kd.int .u8) base 5 hgd hd (xs := ([] : List Int)) (inner := []) (ok := fun _ => True) (okp := fun _ => True) hrun (Reps.none _ _) (fun _ hk => hk) trivial HB hbase (by simp) ?_
  intro v w1 hO hB hg _
  exact h v w1 hO hB hg.size
theorem own_append {w0 W : World} {base : Nat} (hgd : o.guard = none) (s x : Operand) (ho : o.op = .call { callee := .builtin .append, args := #[s, x], argTypes := #[23, 23] })
    (v : Value) (xs ys : List Int) (A : Option Addr) (c : Nat) (hs : a.eval s = v) (hx : a.eval x = .slice A ys.length c) (HO : Own base W v xs) (HR : RdK .u8 W A ys) (HB : Below base w0 W) (hbase : base ≤ W.heap.size)
    (hl : xs.length + ys.length ≤ 1000000) (h : ∀ v1 w1, Own base w1 v1 (xs ++ ys) → Below base w0 w1 → W.heap.size ≤ w1.heap.size → wpList Try.prog ops Q rest (a.put o.dst v1) w1) : wpList Try.prog ops Q (o :: rest) a W := by
  refine Kd.R_append_rows (Kd.int .u8) base hgd s x 23 5 (.int .u8 0) 1 ho Try.underlying23 info5 rfl (by decide) (by omega) v xs ys A ys.length c (fun _ => True) (fun _ => False) hs hx HO (RdK.kd HR (by omega)) ?_ (fun _ hk => hk.elim) (fun _ _ => trivial) HB hbase (by omega) ?_
  · intro x cs hk; exact hk
  · intro v1 w1 hO hB hg _
    exact h v1 w1 hO hB hg.size
end
end Go.Proofs.Ytoiagpebfkignaa.Walks
