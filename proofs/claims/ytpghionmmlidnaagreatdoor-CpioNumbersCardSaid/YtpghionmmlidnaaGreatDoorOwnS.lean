/- Slices of strings of the call's own (literal, append), told by lists. -/
import Derived.Test.YtpghionmmlidnaaGreatDoorAid
import Derived.Test.YtpghionmmlidnaaGreatDoorOnly
import Derived.Test.YtpghionmmlidnaaGreatDoorWGuard
import Derived.Lib.Hide
namespace Go.Proofs.YtpghionmmlidnaaGreatDoor.OwnS
open Go Go.RowKit Go.Proofs.YtpghionmmlidnaaGreatDoor.Aid Go.Proofs.YtpghionmmlidnaaGreatDoorW.PrintWords

/-- A slice of strings reads as a list. -/
def RdS (w : World) (A : Option Addr) (l : List ByteArray) : Prop := 0 < l.length → ∃ ad, A = some ad ∧ ∀ j, j < l.length → w.cell? (ad.add j) = some (.string (l.getD j ⟨#[]⟩))
theorem RdS.below {w w' : World} {A : Option Addr} {l : List ByteArray} (h : RdS w A l) (hb : Below w.heap.size w w') : RdS w' A l := fun hl => by
  obtain ⟨ad, e, hc⟩ := h hl
  exact ⟨ad, e, fun j hj => (hb.cell (World.block_lt_of_cell? w _ (hc j hj))).trans (hc j hj)⟩
theorem RdS.only {w w' : World} {A : Option Addr} {l : List ByteArray} (h : RdS w A l) (ho : Only (fun _ => False) w w') : RdS w' A l := h.below ho.none
theorem RdS.kd {w : World} {A : Option Addr} {l : List ByteArray} (h : RdS w A l) (hl : l.length ≤ 9223372036854775807) : Kd.string.C w A l.length l := Kd.C_of_reads (d := (⟨#[]⟩ : ByteArray)) ⟨rfl, hl, h⟩
/-- A slice of strings in memory that was made from block 'base' on. -/
def Own (base : Nat) (w : World) (v : Value) (l : List ByteArray) : Prop := Kd.string.R 9 w base (fun _ => True) v l
theorem own_nil (base : Nat) (w : World) : Own base w (.slice none 0 0) [] := Kd.R_nil _ _ _ _ _
theorem own_rd {base : Nat} {w : World} {v : Value} {l : List ByteArray} (h : Own base w v l) : ∃ A c, v = .slice A l.length c ∧ l.length ≤ c ∧ RdS w A l := by
  obtain ⟨A, c, e, hc, h2⟩ := Kd.R_reads h
  have := Kd.reads_of_C (d := (⟨#[]⟩ : ByteArray)) h2
  exact ⟨A, c, e, hc, this.2.2⟩
theorem own_only {base : Nat} {w w' : World} {v : Value} {l : List ByteArray} (h : Own base w v l) (ho : Only (fun _ => False) w w') : Own base w' v l := Kd.R_below h ho.none
theorem info9 : (Tryz.prog.info? 9).map (fun i => (i.zero, i.size, i.bytes)) = some (some (.string ⟨#[]⟩), 1, 16) := by kernel_rfl
section
variable {ops : Array Oper} {rest : List Oper} {o : Oper} {a : Act} {Q : Exit → Act → World → Prop}
theorem own_append {w0 W : World} {base : Nat} (hgd : o.guard = none) (s x : Operand) (ho : o.op = .call { callee := .builtin .append, args := #[s, x], argTypes := #[109, 109] })
    (v : Value) (xs ys : List ByteArray) (A : Option Addr) (c n : Nat) (hs : a.eval s = v) (hx : a.eval x = .slice A n c) (hn : ys.length = n) (HO : Own base W v xs) (HR : RdS W A ys) (HB : Below base w0 W) (hbase : base ≤ W.heap.size)
    (hl : xs.length + ys.length ≤ 1000000) (h : ∀ v1 w1, Own base w1 v1 (xs ++ ys) → Below base w0 w1 → W.heap.size ≤ w1.heap.size → wpList Tryz.prog ops Q rest (a.put o.dst v1) w1) : wpList Tryz.prog ops Q (o :: rest) a W := by
  subst hn
  refine Kd.R_append_rows Kd.string base hgd s x 109 9 (.string ⟨#[]⟩) 16 ho Tryz.underlying109 info9 rfl (by decide) (by omega) v xs ys A ys.length c (fun _ => True) (fun _ => False) hs hx HO (RdS.kd HR (by omega)) ?_ (fun _ hk => hk.elim) (fun _ _ => trivial) HB hbase (by omega) ?_
  · intro x cs hk; exact hk
  · intro v1 w1 hO hB hg _
    exact h v1 w1 hO hB hg.size
end
end Go.Proofs.YtpghionmmlidnaaGreatDoor.OwnS
