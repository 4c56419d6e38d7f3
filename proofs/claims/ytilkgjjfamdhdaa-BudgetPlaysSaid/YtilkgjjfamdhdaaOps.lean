/- The law's arguments, laid open: limits by value, and a list of ops. -/
import Derived.Test.YtilkgjjfamdhdaaOpen
namespace Go.Proofs.Ytilkgjjfamdhdaa.Walks
open Go Go.RowKit Go.Proofs.Ytilkgjjfamdhdaa.Aid Go.ChangeShapes Go.WideShapes Go.Deep

/-- A slice of ops that came in: op i is K i, N i, R i. -/
def OpsAt (w : World) (A : Option Addr) (n : Nat) (K N : Nat → Int) (R : Nat → Bool) : Prop :=
  n ≤ 9223372036854775807 ∧ ∀ i, i < n → ∃ ad, A = some ad ∧ w.cell? (ad.add (i * 3)) = some (.int .i64 (K i)) ∧ w.cell? (ad.add (i * 3 + 1)) = some (.int .i64 (N i)) ∧ w.cell? (ad.add (i * 3 + 2)) = some (.bool (R i)) ∧
    (-9223372036854775808 ≤ K i ∧ K i ≤ 9223372036854775807) ∧ (-9223372036854775808 ≤ N i ∧ N i ≤ 9223372036854775807)
theorem i64_bd {x : Int} (h : (Lit.int .i64 x).wf = true) : -9223372036854775808 ≤ x ∧ x ≤ 9223372036854775807 := by
  simp [Lit.wf, IntKind.min, IntKind.max, IntKind.bits, IntKind.signed] at h; omega
theorem OpsAt.below {w w1 : World} {A : Option Addr} {n : Nat} {K N : Nat → Int} {R : Nat → Bool} (h : OpsAt w A n K N R) (hb : Below w.heap.size w w1) : OpsAt w1 A n K N R :=
  ⟨h.1, fun i hi => by
    obtain ⟨ad, e, c1, c2, c3, r⟩ := h.2 i hi
    have kp : ∀ {p : Addr} {v : Value}, w.cell? p = some v → w1.cell? p = some v := fun {p v} hc => (hb.cell (World.block_lt_of_cell? w p hc)).trans hc
    exact ⟨ad, e, kp c1, kp c2, kp c3, r⟩⟩
theorem open_ops {H : Type} {enc : TypeId × Value → H} {W : World} {v : Value} {d : DataW H} {p : List MemPlace} {base : Nat} (ov : Value.okWide Try.prog W .any base 29 v) (k : DataW.Trod enc Try.prog W 0 (fun _ => true) true 29 v d p) :
    ∃ A n c K N R, v = .slice A n c ∧ OpsAt W A n K N R := by
  obtain ⟨A, n, c, rfl⟩ := okWide_slice Try.underlying29 ov
  obtain ⟨fuel, hf⟩ := k
  rcases open_slice_fields Try.underlying29 Try.underlying41 (by kernel_rfl) (by kernel_rfl) hf with ⟨hcs, _⟩ | ⟨a, len, cap, m, D, Pl, hcs, _, hl, hm, hmm, _, hi⟩
  · simp [Value.cells] at hcs
    obtain ⟨rfl, rfl, rfl⟩ := hcs
    exact ⟨none, 0, 0, fun _ => 0, fun _ => 0, fun _ => false, rfl, by omega, fun i hi => by omega⟩
  · simp [Value.cells] at hcs
    obtain ⟨rfl, rfl, rfl⟩ := hcs
    have hm' : n ≤ m := by simp at hmm; omega
    unfold maxLen at hm
    have hex : ∀ i, ∃ kn : Int × Int × Bool, i < n → W.cell? (a.add (i * 3)) = some (.int .i64 kn.1) ∧ W.cell? (a.add (i * 3 + 1)) = some (.int .i64 kn.2.1) ∧ W.cell? (a.add (i * 3 + 2)) = some (.bool kn.2.2) ∧
        (-9223372036854775808 ≤ kn.1 ∧ kn.1 ≤ 9223372036854775807) ∧ (-9223372036854775808 ≤ kn.2.1 ∧ kn.2.1 ≤ 9223372036854775807) := by
      intro i
      by_cases hin : i < n
      · obtain ⟨ys, f, _, _, _, hg⟩ := hi i (by omega)
        obtain ⟨v0, y0, h0, _, t0⟩ := hg 0 _ rfl
        obtain ⟨v1, y1, h1, _, t1⟩ := hg 1 _ rfl
        obtain ⟨v2, y2, h2, _, t2⟩ := hg 2 _ rfl
        obtain ⟨x0, e0, _, b0⟩ := DataW.trod_int Try.underlying3 t0
        obtain ⟨x1, e1, _, b1⟩ := DataW.trod_int Try.underlying3 t1
        obtain ⟨x2, e2, _⟩ := DataW.trod_bool Try.underlying4 t2
        simp at e0 e1 e2
        subst e0 e1 e2
        exact ⟨(x0, x1, x2), fun _ => ⟨h0, h1, h2, i64_bd b0, i64_bd b1⟩⟩
      · exact ⟨(0, 0, false), fun h => absurd h hin⟩
    exact ⟨some a, n, c, fun i => (hex i).choose.1, fun i => (hex i).choose.2.1, fun i => (hex i).choose.2.2, rfl, by omega, fun i hin => ⟨a, rfl, (hex i).choose_spec hin⟩⟩
theorem open_lim {H : Type} {enc : TypeId × Value → H} {W : World} {v : Value} {d : DataW H} {p : List MemPlace} {base : Nat} (ov : Value.okWide Try.prog W .any base 28 v) (k : DataW.Trod enc Try.prog W 0 (fun _ => true) true 28 v d p) :
    ∃ (e t n q : Int) (r : Nat), v = .agg #[.int .i64 e, .int .i64 t, .int .i64 n, .int .i64 q, .float .f64 r] ∧ (-9223372036854775808 ≤ e ∧ e ≤ 9223372036854775807) ∧ (-9223372036854775808 ≤ t ∧ t ≤ 9223372036854775807) ∧ (-9223372036854775808 ≤ n ∧ n ≤ 9223372036854775807) ∧ (-9223372036854775808 ≤ q ∧ q ≤ 9223372036854775807) := by
  obtain ⟨v0, v1, v2, v3, v4, y0, y1, y2, y3, y4, f, rfl, _, _, t0, t1, t2, t3, t4⟩ := open_agg5 Try.underlying28 (by kernel_rfl) (by kernel_rfl) ov k
  obtain ⟨x0, e0, _, b0⟩ := DataW.trod_int Try.underlying3 t0
  obtain ⟨x1, e1, _, b1⟩ := DataW.trod_int Try.underlying3 t1
  obtain ⟨x2, e2, _, b2⟩ := DataW.trod_int Try.underlying3 t2
  obtain ⟨x3, e3, _, b3⟩ := DataW.trod_int Try.underlying3 t3
  have e4 : ∃ r, v4 = .float .f64 r := by
    cases f with
    | zero => simp [DataW.trod] at t4
    | succ n =>
      unfold DataW.trod at t4
      simp only [Try.underlying22] at t4
      cases v4 <;> simp at t4
      obtain ⟨⟨rfl, _⟩, _⟩ := t4
      exact ⟨_, rfl⟩
  obtain ⟨x4, rfl⟩ := e4
  simp at e0 e1 e2 e3
  subst e0 e1 e2 e3
  exact ⟨x0, x1, x2, x3, x4, rfl, i64_bd b0, i64_bd b1, i64_bd b2, i64_bd b3⟩
end Go.Proofs.Ytilkgjjfamdhdaa.Walks
