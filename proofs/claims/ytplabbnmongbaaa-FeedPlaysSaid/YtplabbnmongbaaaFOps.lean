/- The law's argument, laid open: a list of ops, each with bytes of its own. -/
import Derived.Test.YtplabbnmongbaaaOpen
import Derived.Test.YtplabbnmongbaaaOpenInts
namespace Go.Proofs.Ytplabbnmongbaaa.Walks
open Go Go.RowKit Go.Proofs.Ytplabbnmongbaaa.Aid Go.ChangeShapes Go.WideShapes Go.Deep

/-- A slice of ops that came in: op i is K i, N i, and the bytes B i, which lie at A i. -/
def OpsAt (w : World) (A : Option Addr) (n : Nat) (K N : Nat → Int) (C : Nat → Option Addr × List Int × Nat) : Prop :=
  n ≤ 9223372036854775807 ∧ ∀ i, i < n → ∃ ad, A = some ad ∧ w.cell? (ad.add (i * 3)) = some (.int .i64 (K i)) ∧ w.cell? (ad.add (i * 3 + 1)) = some (.int .i64 (N i)) ∧ w.cell? (ad.add (i * 3 + 2)) = some (.slice (C i).1 (C i).2.1.length (C i).2.2) ∧
    RdK .u8 w (C i).1 (C i).2.1 ∧ (∀ x ∈ (C i).2.1, 0 ≤ x ∧ x < 256) ∧ (C i).2.1.length ≤ (C i).2.2 ∧ (C i).2.2 ≤ 9223372036854775807 ∧ (-9223372036854775808 ≤ K i ∧ K i < 9223372036854775808) ∧ (-9223372036854775808 ≤ N i ∧ N i < 9223372036854775808)
theorem open_cell {H : Type} {enc : TypeId × Value → H} {W : World} {v : Value} {y : DataW H × List MemPlace} {f : Nat} (h : DataW.trod enc Try.prog W 0 (fun _ => true) true f 22 [v] = some y) :
    ∃ (A : Option Addr) (l : List Int) (c : Nat), v = .slice A l.length c ∧ RdK .u8 W A l ∧ (∀ x ∈ l, 0 ≤ x ∧ x < 256) ∧ l.length ≤ c ∧ c ≤ 9223372036854775807 := by
  rcases open_ints Try.underlying22 Try.underlying5 (by kernel_rfl) h with ⟨hcs, _⟩ | ⟨x, n, c, zs, hcs, _, hl, hm, hz, _, hcell, hwz⟩
  · simp only [List.cons.injEq, and_true] at hcs
    subst hcs
    exact ⟨none, [], 0, rfl, fun h => absurd h (by simp), fun _ h => (by cases h), Nat.le_refl _, by omega⟩
  · simp only [List.cons.injEq, and_true] at hcs
    subst hcs
    have hz' : zs.length = c := by simpa using hz
    unfold maxLen at hm
    have hlen : (zs.take n).length = n := by rw [List.length_take]; omega
    refine ⟨some x, zs.take n, c, by rw [hlen], fun _ => ⟨x, rfl, fun j hj => ?_⟩, fun y hy => u8_b (hwz y (List.mem_of_mem_take hy)), by omega, by omega⟩
    rw [hlen] at hj
    rw [hcell j (by omega)]
    congr 2
    simp only [List.getD_eq_getElem?_getD, List.getElem?_take, if_pos hj]
theorem open_ops {H : Type} {enc : TypeId × Value → H} {W : World} {v : Value} {d : DataW H} {p : List MemPlace} {base : Nat} (ov : Value.okWide Try.prog W .any base 34 v) (k : DataW.Trod enc Try.prog W 0 (fun _ => true) true 34 v d p) :
    ∃ A n c K N C, v = .slice A n c ∧ OpsAt W A n K N C := by
  obtain ⟨A, n, c, rfl⟩ := okWide_slice Try.underlying34 ov
  obtain ⟨fuel, hf⟩ := k
  rcases open_slice_fields Try.underlying34 Try.underlying36 (by kernel_rfl) (by kernel_rfl) hf with ⟨hcs, _⟩ | ⟨a, len, cap, m, D, Pl, hcs, _, hl, hm, hmm, _, hi⟩
  · simp [Value.cells] at hcs
    obtain ⟨rfl, rfl, rfl⟩ := hcs
    exact ⟨none, 0, 0, fun _ => 0, fun _ => 0, fun _ => (none, [], 0), rfl, by omega, fun i hi => by omega⟩
  · simp [Value.cells] at hcs
    obtain ⟨rfl, rfl, rfl⟩ := hcs
    have hm' : n ≤ m := by simp at hmm; omega
    unfold maxLen at hm
    have hex : ∀ i, ∃ kn : Int × Int × (Option Addr × List Int × Nat), i < n → W.cell? (a.add (i * 3)) = some (.int .i64 kn.1) ∧ W.cell? (a.add (i * 3 + 1)) = some (.int .i64 kn.2.1) ∧ W.cell? (a.add (i * 3 + 2)) = some (.slice kn.2.2.1 kn.2.2.2.1.length kn.2.2.2.2) ∧
        RdK .u8 W kn.2.2.1 kn.2.2.2.1 ∧ (∀ x ∈ kn.2.2.2.1, 0 ≤ x ∧ x < 256) ∧ kn.2.2.2.1.length ≤ kn.2.2.2.2 ∧ kn.2.2.2.2 ≤ 9223372036854775807 ∧
        (-9223372036854775808 ≤ kn.1 ∧ kn.1 < 9223372036854775808) ∧ (-9223372036854775808 ≤ kn.2.1 ∧ kn.2.1 < 9223372036854775808) := by
      intro i
      by_cases hin : i < n
      · obtain ⟨ys, f, _, _, _, hg⟩ := hi i (by omega)
        obtain ⟨v0, y0, h0, _, t0⟩ := hg 0 _ rfl
        obtain ⟨v1, y1, h1, _, t1⟩ := hg 1 _ rfl
        obtain ⟨v2, y2, h2, _, t2⟩ := hg 2 _ rfl
        obtain ⟨x0, e0, _, b0⟩ := DataW.trod_int Try.underlying3 t0
        obtain ⟨x1, e1, _, b1⟩ := DataW.trod_int Try.underlying3 t1
        simp at e0 e1
        subst e0 e1
        obtain ⟨A2, l2, c2, rfl, r2, bb, lc, cm⟩ := open_cell t2
        exact ⟨(x0, x1, (A2, l2, c2)), fun _ => ⟨h0, h1, h2, r2, bb, lc, cm, i64_b b0, i64_b b1⟩⟩
      · exact ⟨(0, 0, (none, [], 0)), fun h => absurd h hin⟩
    exact ⟨some a, n, c, fun i => (hex i).choose.1, fun i => (hex i).choose.2.1, fun i => (hex i).choose.2.2, rfl, by omega, fun i hin => ⟨a, rfl, (hex i).choose_spec hin⟩⟩
end Go.Proofs.Ytplabbnmongbaaa.Walks
