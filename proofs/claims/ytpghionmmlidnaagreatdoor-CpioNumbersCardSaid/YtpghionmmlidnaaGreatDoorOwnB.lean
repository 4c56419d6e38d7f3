/- Slices of bytes of the call's own (literal, append), told by lists. -/
import Derived.Test.YtpghionmmlidnaaGreatDoorAid
import Derived.Test.YtpghionmmlidnaaGreatDoorOnly
import Derived.Test.YtpghionmmlidnaaGreatDoorOpenInts
import Derived.Test.YtpghionmmlidnaaGreatDoorWGuard
import Derived.Lib.Hide
namespace Go.Proofs.YtpghionmmlidnaaGreatDoor.Own
open Go Go.RowKit Go.Proofs.YtpghionmmlidnaaGreatDoor.Aid Go.Proofs.YtpghionmmlidnaaGreatDoorW.PrintWords

/-- A slice of bytes in memory that was made from block 'base' on. -/
def Own (base : Nat) (w : World) (v : Value) (l : List Int) : Prop := (Kd.int .u8).R 5 w base (fun _ => True) v l
theorem Own.rd {base : Nat} {w : World} {v : Value} {l : List Int} (h : Own base w v l) : ∃ A c, v = .slice A l.length c ∧ RdK .u8 w A l := by
  obtain ⟨A, c, e, _, hc⟩ := Kd.R_reads h
  have := Kd.reads_of_C (d := (0 : Int)) hc
  exact ⟨A, c, e, this.2.2⟩
theorem RdK.kd {w : World} {A : Option Addr} {l : List Int} (h : RdK .u8 w A l) (hl : l.length ≤ 9223372036854775807) : (Kd.int .u8).C w A l.length l := Kd.C_of_reads (d := (0 : Int)) ⟨rfl, hl, h⟩
theorem rd_only {q : IntKind} {w w' : World} {A : Option Addr} {l : List Int} (h : RdK q w A l) (ho : Only (fun _ => False) w w') : RdK q w' A l := h.below ho.none
theorem Own.only {base : Nat} {w w' : World} {v : Value} {l : List Int} (h : Own base w v l) (ho : Only (fun _ => False) w w') : Own base w' v l := Kd.R_below h ho.none
theorem info5 : (Tryz.prog.info? 5).map (fun i => (i.zero, i.size, i.bytes)) = some (some (.int .u8 0), 1, 1) := by kernel_rfl
section
variable {ops : Array Oper} {rest : List Oper} {o : Oper} {a : Act} {Q : Exit → Act → World → Prop}
theorem own_empty {w0 W : World} {base : Nat} (hgd : o.guard = none) {N : Tmp} (hd : o.dst = some N)
    (hrun : (execOp a.eval o).run Tryz.prog W = .ok (.value (.slice (some ⟨W.heap.size, 0, none⟩) 0 0)) (W.alloc (.cells #[] 5)))
    (HB : Below base w0 W) (hbase : base ≤ W.heap.size) (h : ∀ v w1, Own base w1 v [] → Below base w0 w1 → W.heap.size ≤ w1.heap.size → wpList Tryz.prog ops Q rest (a.put o.dst v) w1) : wpList Tryz.prog ops Q (o :: rest) a W := by
  refine Kd.R_lit (Kd.int .u8) base 5 hgd hd (xs := ([] : List Int)) (inner := []) (ok := fun _ => True) (okp := fun _ => True) hrun (Reps.none _ _) (fun _ hk => hk) trivial HB hbase (by simp) ?_
  intro v w1 hO hB hg _
  exact h v w1 hO hB hg.size
theorem own_append {w0 W : World} {base : Nat} (hgd : o.guard = none) (s x : Operand) (ho : o.op = .call { callee := .builtin .append, args := #[s, x], argTypes := #[26, 26] })
    (v : Value) (xs ys : List Int) (A : Option Addr) (c : Nat) (hs : a.eval s = v) (hx : a.eval x = .slice A ys.length c) (HO : Own base W v xs) (HR : RdK .u8 W A ys) (HB : Below base w0 W) (hbase : base ≤ W.heap.size)
    (hl : xs.length + ys.length ≤ 1000000) (h : ∀ v1 w1, Own base w1 v1 (xs ++ ys) → Below base w0 w1 → W.heap.size ≤ w1.heap.size → wpList Tryz.prog ops Q rest (a.put o.dst v1) w1) : wpList Tryz.prog ops Q (o :: rest) a W := by
  refine Kd.R_append_rows (Kd.int .u8) base hgd s x 26 5 (.int .u8 0) 1 ho Tryz.underlying26 info5 rfl (by decide) (by omega) v xs ys A ys.length c (fun _ => True) (fun _ => False) hs hx HO (RdK.kd HR (by omega)) ?_ (fun _ hk => hk.elim) (fun _ _ => trivial) HB hbase (by omega) ?_
  · intro x cs hk; exact hk
  · intro v1 w1 hO hB hg _
    exact h v1 w1 hO hB hg.size
theorem own_make {w0 W : World} {base : Nat} (hgd : o.guard = none) {N : Tmp} (hd : o.dst = some N) (x : Operand) (ho : o.op = .makeSlice 26 x x) (n : Nat) (hx : a.eval x = .int .i64 (n : Int)) (HB : Below base w0 W) (hbase : base ≤ W.heap.size)
    (hl : n ≤ 1000000) (h : ∀ v1 w1, Own base w1 v1 (List.replicate n 0) → Below base w0 w1 → wpList Tryz.prog ops Q rest (a.put o.dst v1) w1) : wpList Tryz.prog ops Q (o :: rest) a W := by
  refine Kd.R_make (Kd.int .u8) base 5 hgd hd 26 x x ho (n : Int) hx hx Tryz.underlying26 (.int .u8 0) 1 info5 rfl (by decide) (by decide) (0 : Int) (ok := fun _ => True) (okp := fun _ => True) ?hzero (fun _ hk => hk) trivial (by omega) (by omega) HB hbase ?_
  case hzero => exact rfl
  intro v1 w1 hO hB _ _
  exact h v1 w1 hO hB
end
theorem Own.form {base : Nat} {w : World} {v : Value} {l : List Int} (h : Own base w v l) (h0 : 0 < l.length) : ∃ g cap, v = .slice (some ⟨g, 0, none⟩) l.length cap ∧ base ≤ g := by
  obtain ⟨g, cap, e, _⟩ := Kd.own_of_R h |>.form h0
  subst e
  exact ⟨g, cap, rfl, Kd.R_base h g rfl⟩
theorem Own.put {base : Nat} {w : World} {g cap : Nat} {l : List Int} (h : Own base w (.slice (some ⟨g, 0, none⟩) l.length cap) l) (i : Nat) (x : Int) :
    Own base (w.setCell ⟨g, i, none⟩ (.int .u8 x)) (.slice (some ⟨g, 0, none⟩) l.length cap) (l.set i x) := (Kd.R_put h (i : Int) x).1
theorem Own.putn {base : Nat} {w : World} {g n cap : Nat} {l : List Int} (h : Own base w (.slice (some ⟨g, 0, none⟩) n cap) l) (i : Nat) (x : Int) :
    Own base (w.setCell ⟨g, i, none⟩ (.int .u8 x)) (.slice (some ⟨g, 0, none⟩) n cap) (l.set i x) := Kd.R_putn h (i : Int) x
theorem Own.cell {base : Nat} {w : World} {g n cap : Nat} {l : List Int} (h : Own base w (.slice (some ⟨g, 0, none⟩) n cap) l) {j : Nat} (hj : j < l.length) : w.cell? ⟨g, j, none⟩ = some (.int .u8 (l.getD j 0)) := by
  obtain ⟨A, c, e, hR⟩ := h.rd
  obtain ⟨ad, e2, hc⟩ := hR (by omega)
  rw [e2] at e
  injection e with e _ _
  injection e with e
  rw [← hc j hj, ← e]
  congr 1
  unfold Addr.add; split <;> simp_all
theorem Own.frozen {base : Nat} {w : World} {g n cap : Nat} {l : List Int} (h : Own base w (.slice (some ⟨g, 0, none⟩) n cap) l) {j : Nat} (hj : j < n) : w.frozen? ⟨g, j, none⟩ = false :=
  (Kd.R_celln (0 : Int) h (j : Int) (by omega) (by omega)).2
theorem load_rd {w : World} {ad : Addr} {l : List Int} (hc : ∀ j, j < l.length → w.cell? (ad.add j) = some (.int .u8 (l.getD j 0))) : (loadCells ad l.length).run Tryz.prog w = .ok (l.map (Value.int .u8)).toArray w := by
  have h := run_loadCells_list (P := Tryz.prog) w ad (l.map (Value.int .u8)) (fun j v hv => by
    rw [List.getElem?_map] at hv
    cases hx : l[j]? with
    | none => rw [hx] at hv; simp at hv
    | some x =>
      rw [hx] at hv
      simp only [Option.map_some, Option.some.injEq] at hv
      have hj : j < l.length := (List.getElem?_eq_some_iff.1 hx).1
      rw [hc j hj, ← hv, List.getD_eq_getElem?_getD, hx]
      rfl)
  simpa using h
theorem str_rd {w : World} {A : Option Addr} {l : List Int} (c : Nat) (h : RdK .u8 w A l) : (convert 26 9 (.slice A l.length c)).run Tryz.prog w = .ok (.string (strOfNums l)) w := by
  rw [run_convert_bytes_string w 26 9 5 A l.length c Tryz.underlying26 Tryz.underlying5 Tryz.underlying9]
  cases l with
  | nil => cases A <;> simp [Conv.bytesToString] <;> rfl
  | cons x xs =>
    obtain ⟨ad, rfl, hc⟩ := h (by simp)
    rw [run_bytesToString w ad (x :: xs).length c (x :: xs) (load_rd hc), foldl_push_bytes]
    simp [strOfNums, ByteArray.empty, ByteArray.emptyWithCapacity]
    rfl
end Go.Proofs.YtpghionmmlidnaaGreatDoor.Own
