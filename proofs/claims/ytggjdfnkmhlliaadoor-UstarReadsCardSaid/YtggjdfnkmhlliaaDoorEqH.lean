/- Headers held against each other. -/
import Derived.Test.YtggjdfnkmhlliaaDoorPart
import Derived.Test.YtggjdfnkmhlliaaDoorWEqStruct
namespace Go.Proofs.YtggjdfnkmhlliaaDoor.Walks
open Go Go.RowKit Go.Proofs.YtggjdfnkmhlliaaDoor.Aid Go.Proofs.YtggjdfnkmhlliaaDoor.Own Go.Proofs.YtggjdfnkmhlliaaDoorW.PrintWords

def heq (H K : Hdr) : Bool := (H.name == K.name) && ((H.pre == K.pre) && ((H.target == K.target) && ((H.mode == K.mode) && ((H.uid == K.uid) && ((H.gid == K.gid) && ((H.size == K.size) && ((H.time == K.time) && (((H.type.toNat : Int) == (K.type.toNat : Int)) && ((H.user == K.user) && (H.group == K.group))))))))))
theorem eqs9 (d : Nat) (a b : Str) (w : World) : (Op.equalIn (d + 1) 9 (.string (B a)) (.string (B b))).run Tryd.prog w = .ok (a == b) w := by
  rw [run_equalIn_string w d 9 _ _ Tryd.underlying9, toList_B, toList_B]
theorem eqi3 (d : Nat) (a b : Int) (w : World) : (Op.equalIn (d + 1) 3 (.int .i64 a) (.int .i64 b)).run Tryd.prog w = .ok (a == b) w := run_equalIn_int w d 3 .i64 .i64 a b Tryd.underlying3
theorem eqi5 (d : Nat) (a b : Int) (w : World) : (Op.equalIn (d + 1) 5 (.int .u8 a) (.int .u8 b)).run Tryd.prog w = .ok (a == b) w := run_equalIn_int w d 5 .u8 .u8 a b Tryd.underlying5
theorem equal24 (H K : Hdr) (w : World) : (Op.equalIn 10000 24 (hval H) (hval K)).run Tryd.prog w = .ok (heq H K) w := by
  refine eqA_of (d := 9999) Tryd.underlying24 (by kernel_rfl) ?_
  refine eqf_cons (by decide) (by simp [go_sem, part, hrow]) (by simp [go_sem, part, hrow]) (eqs9 9998 _ _ w) ?_
  refine eqf_cons (by decide) (by simp [go_sem, part, hrow]) (by simp [go_sem, part, hrow]) (eqs9 9998 _ _ w) ?_
  refine eqf_cons (by decide) (by simp [go_sem, part, hrow]) (by simp [go_sem, part, hrow]) (eqs9 9998 _ _ w) ?_
  refine eqf_cons (by decide) (by simp [go_sem, part, hrow]) (by simp [go_sem, part, hrow]) (eqi3 9998 _ _ w) ?_
  refine eqf_cons (by decide) (by simp [go_sem, part, hrow]) (by simp [go_sem, part, hrow]) (eqi3 9998 _ _ w) ?_
  refine eqf_cons (by decide) (by simp [go_sem, part, hrow]) (by simp [go_sem, part, hrow]) (eqi3 9998 _ _ w) ?_
  refine eqf_cons (by decide) (by simp [go_sem, part, hrow]) (by simp [go_sem, part, hrow]) (eqi3 9998 _ _ w) ?_
  refine eqf_cons (by decide) (by simp [go_sem, part, hrow]) (by simp [go_sem, part, hrow]) (eqi3 9998 _ _ w) ?_
  refine eqf_cons (by decide) (by simp [go_sem, part, hrow]) (by simp [go_sem, part, hrow]) (eqi5 9998 _ _ w) ?_
  refine eqf_cons (by decide) (by simp [go_sem, part, hrow]) (by simp [go_sem, part, hrow]) (eqs9 9998 _ _ w) ?_
  exact eqf_last (by decide) (by simp [go_sem, part, hrow]) (by simp [go_sem, part, hrow]) (eqs9 9998 _ _ w)
theorem heq_iff (H K : Hdr) : heq H K = decide (H = K) := by
  obtain ⟨a0, a1, a2, a3, a4, a5, a6, a7, a8, a9, a10⟩ := H
  obtain ⟨b0, b1, b2, b3, b4, b5, b6, b7, b8, b9, b10⟩ := K
  rw [Bool.eq_iff_iff, decide_eq_true_iff]
  unfold heq
  simp only [Bool.and_eq_true, beq_iff_eq, Hdr.mk.injEq]
  constructor
  · rintro ⟨h0, h1, h2, h3, h4, h5, h6, h7, h8, h9, h10⟩
    exact ⟨h0, h1, h2, h3, h4, h5, h6, h7, UInt8.toNat.inj (by exact_mod_cast h8), h9, h10⟩
  · rintro ⟨h0, h1, h2, h3, h4, h5, h6, h7, h8, h9, h10⟩
    exact ⟨h0, h1, h2, h3, h4, h5, h6, h7, by rw [h8], h9, h10⟩
theorem eql24 (H K : Hdr) (w : World) : (binOp .eql 24 (hval H) (hval K)).run Tryd.prog w = .ok (.bool (decide (H = K))) w := by
  have h := equal24 H K w
  rw [heq_iff] at h
  unfold hval at h ⊢
  rw [run_eql_struct, h]; rfl
theorem neq24 (H K : Hdr) (w : World) : (binOp .neq 24 (hval H) (hval K)).run Tryd.prog w = .ok (.bool (!decide (H = K))) w := by
  have h := equal24 H K w
  rw [heq_iff] at h
  unfold hval at h ⊢
  rw [run_neq_struct, h]; rfl
theorem guard24 : Tryd.prog.eqGuardType Tryd.prog.depth 24 = false := by kernel_rfl
section
variable {ops : Array Oper} {rest : List Oper} {o : Oper} {a : Act} {Q : Exit → Act → World → Prop}
theorem op_eql24 {W : World} (hgd : o.guard = none) (x y : Operand) (ho : o.op = .binOp .eql 24 x y 24) (H K : Hdr) (hx : a.eval x = hval H) (hy : a.eval y = hval K) (h : wpList Tryd.prog ops Q rest (a.put o.dst (.bool (decide (H = K)))) W) : wpList Tryd.prog ops Q (o :: rest) a W := by
  have e1 := run_eqGuard_agg (P := Tryd.prog) W .eql 24 x y (hrow H) (hrow K) guard24
  have e2 := eql24 H K W
  unfold hval at e2 hx hy
  refine wpList_plain hgd fun K2 hK => ?_
  unfold Oper.wp execOp
  simp only [ho, hx, hy, Sem.run_bind, e1, e2, Result.andThen_ok, Sem.run_pure]
  exact hK _ _ h
theorem op_neq24 {W : World} (hgd : o.guard = none) (x y : Operand) (ho : o.op = .binOp .neq 24 x y 24) (H K : Hdr) (hx : a.eval x = hval H) (hy : a.eval y = hval K) (h : wpList Tryd.prog ops Q rest (a.put o.dst (.bool (!decide (H = K)))) W) : wpList Tryd.prog ops Q (o :: rest) a W := by
  have e1 := run_eqGuard_agg (P := Tryd.prog) W .neq 24 x y (hrow H) (hrow K) guard24
  have e2 := neq24 H K W
  unfold hval at e2 hx hy
  refine wpList_plain hgd fun K2 hK => ?_
  unfold Oper.wp execOp
  simp only [ho, hx, hy, Sem.run_bind, e1, e2, Result.andThen_ok, Sem.run_pure]
  exact hK _ _ h
end
end Go.Proofs.YtggjdfnkmhlliaaDoor.Walks
