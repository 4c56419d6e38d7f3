/- Slices of whole numbers that came in, laid open: the cells of what is read, and the bounds. -/
import Derived.Test.YtpghionmmlidnaaGreatDoorProg
import Derived.Test.YtpghionmmlidnaaGreatDoorAid
import Derived.OpenShut
import Derived.SizedLaws
import Derived.ChangeSlices
import Derived.KernelRfl
namespace Go.Proofs.YtpghionmmlidnaaGreatDoor.Aid
open Go Go.RowKit Go.ChangeShapes Go.WideShapes

/-- A slice of numbers of kind q reads as a list. -/
def RdK (q : IntKind) (w : World) (A : Option Addr) (l : List Int) : Prop := 0 < l.length → ∃ ad, A = some ad ∧ ∀ j, j < l.length → w.cell? (ad.add j) = some (.int q (l.getD j 0))
theorem RdK.below {q : IntKind} {w w' : World} {A : Option Addr} {l : List Int} (h : RdK q w A l) (hb : Below w.heap.size w w') : RdK q w' A l := fun hl => by
  obtain ⟨ad, e, hc⟩ := h hl
  exact ⟨ad, e, fun j hj => (hb.cell (World.block_lt_of_cell? w _ (hc j hj))).trans (hc j hj)⟩
theorem open_nums {P : Program} {H : Type} {enc : TypeId × Value → H} {W : World} {v : Value} {d : DataW H} {p : List MemPlace} {base : Nat} {t e : TypeId} {q : IntKind}
    (ht : P.underlying t = some (.slice e)) (he : P.underlying e = some (.int q)) (hC : P.cellsOf e = 1)
    (ov : Value.okWide P W .any base t v) (k : DataW.Trod enc P W 0 (fun _ => true) true t v d p) :
    ∃ A c l, v = .slice A l.length c ∧ l.length ≤ c ∧ c ≤ 9223372036854775807 ∧ RdK q W A l ∧ ∀ x ∈ l, (Lit.int q x).wf = true := by
  obtain ⟨A, n, c, rfl⟩ := okWide_slice ht ov
  obtain ⟨fuel, hf⟩ := k
  rcases open_ints ht he hC hf with ⟨hcs, _⟩ | ⟨x, l, cc, zs, hcs, _, hl, hm, hz, _, hcell, hwz⟩
  · simp [Value.cells] at hcs
    obtain ⟨rfl, rfl, rfl⟩ := hcs
    exact ⟨none, 0, [], rfl, by simp, by omega, fun h => by simp at h, fun _ h => by cases h⟩
  · simp [Value.cells] at hcs
    obtain ⟨rfl, rfl, rfl⟩ := hcs
    have hz' : zs.length = c := by simpa using hz
    unfold maxLen at hm
    have hlen : (zs.take n).length = n := by rw [List.length_take]; omega
    refine ⟨some x, c, zs.take n, by rw [hlen], by omega, by omega, fun _ => ⟨x, rfl, fun j hj => ?_⟩, fun y hy => hwz y (List.mem_of_mem_take hy)⟩
    rw [hlen] at hj
    rw [hcell j (by omega)]
    congr 2
    simp only [List.getD_eq_getElem?_getD, List.getElem?_take, if_pos hj]
end Go.Proofs.YtpghionmmlidnaaGreatDoor.Aid
