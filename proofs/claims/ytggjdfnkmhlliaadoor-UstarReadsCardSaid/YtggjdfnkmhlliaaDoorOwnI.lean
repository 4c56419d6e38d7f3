/- Slices of ints of the call's own (literal, append), told by lists. -/
import Derived.Test.YtggjdfnkmhlliaaDoorAid
import Derived.Test.YtggjdfnkmhlliaaDoorOnly
import Derived.Test.YtggjdfnkmhlliaaDoorWGuard
import Derived.Lib.Hide
namespace Go.Proofs.YtggjdfnkmhlliaaDoor.OwnI
open Go Go.RowKit Go.Proofs.YtggjdfnkmhlliaaDoor.Aid Go.Proofs.YtggjdfnkmhlliaaDoorW.PrintWords

/-- A slice of ints reads as a list. -/
def RdI (w : World) (A : Option Addr) (l : List Int) : Prop := 0 < l.length → ∃ ad, A = some ad ∧ ∀ j, j < l.length → w.cell? (ad.add j) = some (.int .i64 (l.getD j 0))
theorem RdI.below {w w' : World} {A : Option Addr} {l : List Int} (h : RdI w A l) (hb : Below w.heap.size w w') : RdI w' A l := fun hl => by
  obtain ⟨ad, e, hc⟩ := h hl
  exact ⟨ad, e, fun j hj => (hb.cell (World.block_lt_of_cell? w _ (hc j hj))).trans (hc j hj)⟩
theorem RdI.only {w w' : World} {A : Option Addr} {l : List Int} (h : RdI w A l) (ho : Only (fun _ => False) w w') : RdI w' A l := h.below ho.none
theorem RdI.kd {w : World} {A : Option Addr} {l : List Int} (h : RdI w A l) (hl : l.length ≤ 9223372036854775807) : (Kd.int .i64).C w A l.length l := Kd.C_of_reads (d := (0 : Int)) ⟨rfl, hl, h⟩
/-- A slice of ints in memory that was made from block 'base' on. -/
def Own (base : Nat) (w : World) (v : Value) (l : List Int) : Prop := (Kd.int .i64).R 3 w base (fun _ => True) v l
theorem own_nil (base : Nat) (w : World) : Own base w (.slice none 0 0) [] := Kd.R_nil _ _ _ _ _
theorem own_rd {base : Nat} {w : World} {v : Value} {l : List Int} (h : Own base w v l) : ∃ A c, v = .slice A l.length c ∧ l.length ≤ c ∧ RdI w A l := by
  obtain ⟨A, c, e, hc, h2⟩ := Kd.R_reads h
  have := Kd.reads_of_C (d := (0 : Int)) h2
  exact ⟨A, c, e, hc, this.2.2⟩
theorem own_only {base : Nat} {w w' : World} {v : Value} {l : List Int} (h : Own base w v l) (ho : Only (fun _ => False) w w') : Own base w' v l := Kd.R_below h ho.none
theorem info3 : (Tryd.prog.info? 3).map (fun i => (i.zero, i.size, i.bytes)) = some (some (.int .i64 0), 1, 8) := by kernel_rfl
theorem own_form {base : Nat} {w : World} {v : Value} {l : List Int} (h : Own base w v l) (h0 : 0 < l.length) : ∃ g cap, v = .slice (some ⟨g, 0, none⟩) l.length cap ∧ base ≤ g ∧ ∀ j, j < l.length → w.cell? ⟨g, j, none⟩ = some (.int .i64 (l.getD j 0)) := by
  obtain ⟨g, cap, e, _⟩ := Kd.own_of_R h |>.form h0
  subst e
  obtain ⟨A, c, e, _, hR⟩ := own_rd h
  obtain ⟨ad, e2, hc⟩ := hR h0
  rw [e2] at e
  injection e with e _ _
  injection e with e
  refine ⟨g, cap, rfl, Kd.R_base h g rfl, fun j hj => ?_⟩
  rw [← hc j hj, ← e]
  congr 1
  unfold Addr.add; split <;> simp_all
section
variable {ops : Array Oper} {rest : List Oper} {o : Oper} {a : Act} {Q : Exit → Act → World → Prop}
theorem own_append {w0 W : World} {base : Nat} (hgd : o.guard = none) (s x : Operand) (ho : o.op = .call { callee := .builtin .append, args := #[s, x], argTypes := #[50, 50] })
    (v : Value) (xs ys : List Int) (A : Option Addr) (c n : Nat) (hs : a.eval s = v) (hx : a.eval x = .slice A n c) (hn : ys.length = n) (HO : Own base W v xs) (HR : RdI W A ys) (HB : Below base w0 W) (hbase : base ≤ W.heap.size)
    (hl : xs.length + ys.length ≤ 1000000) (h : ∀ v1 w1, Own base w1 v1 (xs ++ ys) → Below base w0 w1 → W.heap.size ≤ w1.heap.size → wpList Tryd.prog ops Q rest (a.put o.dst v1) w1) : wpList Tryd.prog ops Q (o :: rest) a W := by
  subst hn
  refine Kd.R_append_rows (Kd.int .i64) base hgd s x 50 3 (.int .i64 0) 8 ho Tryd.underlying50 info3 rfl (by decide) (by omega) v xs ys A ys.length c (fun _ => True) (fun _ => False) hs hx HO (RdI.kd HR (by omega)) ?_ (fun _ hk => hk.elim) (fun _ _ => trivial) HB hbase (by omega) ?_
  · intro x cs hk; exact hk
  · intro v1 w1 hO hB hg _
    exact h v1 w1 hO hB hg.size
end
end Go.Proofs.YtggjdfnkmhlliaaDoor.OwnI
