/- Slices of ints of the call's own that grow. -/
import Derived.Test.YtpghionmmlidnaaGreatDoorOwnS
import Derived.Test.YtpghionmmlidnaaGreatDoorOpenInts
import Derived.Deep.AppendSrc
import Derived.Deep.WholeRow
namespace Go.Proofs.YtpghionmmlidnaaGreatDoor.OwnJ
open Go Go.RowKit Go.Proofs.YtpghionmmlidnaaGreatDoor.Aid Go.Proofs.YtpghionmmlidnaaGreatDoorW.PrintWords

def flatJ (l : List Int) : List Value := l.map (fun x => .int .i64 x)
/-- A slice of ints that the call made. -/
def OwnJ (base : Nat) (w : World) (v : Value) (l : List Int) : Prop := w.ownsRow base 3 1 v l.length (flatJ l)
theorem ownJ_nil (base : Nat) (w : World) : OwnJ base w (.slice none 0 0) [] := World.ownsRow_nil w base _ 1
theorem ownJ_only {S : Nat → Prop} {base : Nat} {w w' : World} {v : Value} {l : List Int} (h : OwnJ base w v l) (ho : Only S w w') (hS : ∀ b, some b = v.ownBlock → ¬ S b) : OwnJ base w' v l := by
  obtain ⟨hl, h1⟩ := h
  refine ⟨hl, ?_⟩
  rcases h1 with h0 | ⟨g, cap, cur, hv, hb, hg, hn⟩
  · exact Or.inl h0
  · exact Or.inr ⟨g, cap, cur, hv, hb, ho.keeps hg (hS g (by rw [hv]; rfl)), hn⟩
theorem ownJ_lt {base : Nat} {w : World} {v : Value} {l : List Int} (h : OwnJ base w v l) {b : Nat} (hb : some b = v.ownBlock) : base ≤ b ∧ b < w.heap.size := World.ownsRow.lt h b hb.symm
theorem flatJ_get {l : List Int} {j : Nat} (h : j < l.length) : (flatJ l)[j]? = some (.int .i64 (l.getD j 0)) := by
  unfold flatJ
  rw [List.getElem?_map, List.getElem?_eq_getElem h, List.getD_eq_getElem?_getD, List.getElem?_eq_getElem h]
  rfl
theorem ownJ_rd {base : Nat} {w : World} {v : Value} {l : List Int} (h : OwnJ base w v l) : ∃ A c, v = .slice A l.length c ∧ l.length ≤ c ∧ RdK .i64 w A l := by
  rcases h.2 with ⟨rfl, h0⟩ | ⟨g, cap, cur, rfl, hb, hg, hn, hc, hs, ht⟩
  · have : l = [] := List.eq_nil_of_length_eq_zero h0
    subst this
    exact ⟨none, 0, rfl, Nat.le_refl _, fun h => absurd h (Nat.lt_irrefl 0)⟩
  · exact ⟨some ⟨g, 0, none⟩, cap, rfl, hn, fun _ => ⟨_, rfl, fun j hj => World.ownsRow.cells h (g := g) rfl j _ (flatJ_get hj)⟩⟩
theorem rdJ_one {w : World} (x : Int) : RdK .i64 (w.alloc (.cells #[.int .i64 x] 3)) (some ⟨w.heap.size, 0, none⟩) [x] := fun _ => ⟨_, rfl, fun j hj => by
  obtain rfl : j = 0 := by simpa using hj
  exact Joins.cell_of_block (alloc_new w _) 0⟩
theorem infoJ_any : ∃ i : TypeInfo, Tryz.prog.info? 3 = some i ∧ i.zero.isSome = true ∧ i.size = 1 ∧ i.bytes = 8 ∧ (i.zero.getD undef).cells.size = 1 := by
  have h : (Tryz.prog.info? 3).map (fun i => (i.zero.isSome, i.size, i.bytes, (i.zero.getD undef).cells.size)) = some (true, 1, 8, 1) := by kernel_rfl
  cases hi : Tryz.prog.info? 3 with
  | none => rw [hi] at h; cases h
  | some i =>
    rw [hi] at h
    have h2 := Option.some.inj h
    simp only [Prod.mk.injEq] at h2
    exact ⟨i, rfl, h2.1, h2.2.1, h2.2.2.1, h2.2.2.2⟩
section
variable {ops : Array Oper} {rest : List Oper} {o : Oper} {a : Act} {Q : Exit → Act → World → Prop}
/-- Ints are appended onto a slice of the call's own. -/
theorem appJ {W : World} {base : Nat} (hgd : o.guard = none) (s x : Operand) (ho : o.op = .call { callee := .builtin .append, args := #[s, x], argTypes := #[32, 32] })
    (v : Value) (A : Option Addr) (n c : Nat) (l m : List Int) (hs : a.eval s = v) (hx : a.eval x = .slice A n c) (hm : m.length = n) (h0 : m ≠ []) (HO : OwnJ base W v l) (HR : RdK .i64 W A m) (hbase : base ≤ W.heap.size) (hl : l.length + m.length ≤ 1000000)
    (h : ∀ v1 w1, OwnJ base w1 v1 (l ++ m) → Only (fun k => some k = v.ownBlock) W w1 → wpList Tryz.prog ops Q rest (a.put o.dst v1) w1) : wpList Tryz.prog ops Q (o :: rest) a W := by
  refine wpList_plain hgd fun _ hK => ?_
  obtain ⟨i, hi, hz, hsz, hby, hzs⟩ := infoJ_any
  obtain ⟨z, hz'⟩ := Option.isSome_iff_exists.1 hz
  rw [hz', Option.getD_some] at hzs
  subst hm
  have hpos := List.length_pos_iff.mpr h0
  obtain ⟨ad, rfl, hcell⟩ := HR hpos
  obtain ⟨v1, w1, hr, hown, hg, _, hat⟩ := run_append_own_at (P := Tryz.prog) W base 32 o.type 3 i z 1 8 Tryz.underlying32 hi hz' hsz hby hzs (by decide) v l.length (flatJ l) HO ad m.length c (flatJ m) (by simp [flatJ]) (fun j u hu => by
    have hj : j < m.length := by have := (List.getElem?_eq_some_iff.1 hu).1; simpa [flatJ] using this
    rw [flatJ_get hj] at hu
    rw [hcell j hj]
    exact hu) (fun u hu => by
      obtain ⟨s, _, rfl⟩ := List.mem_map.1 hu
      rfl) (by unfold maxLen; omega) (by omega) hbase
  unfold Oper.wp execOp
  simp only [ho, resolve, invoke, builtin, Sem.run_bind, Sem.run_pure, Result.andThen_ok, List.map_toArray, List.map_cons, List.map_nil, hs, hx, hr]
  refine hK _ _ (h v1 w1 ?_ ⟨hg.os, hg.tape, hg.output, hg.size, fun k hk hn => hg.block k hk (fun e2 => hn e2)⟩)
  unfold OwnJ
  rw [List.length_append]
  unfold flatJ
  rw [List.map_append]
  exact hown
end
end Go.Proofs.YtpghionmmlidnaaGreatDoor.OwnJ
