/- The reference's tree: its nodes get their kids one by one. -/
import Derived.Test.YtihcdecdkpbpmaaDoorIns
import Derived.Test.YtihcdecdkpbpmaaDoorNdT
import Derived.Test.YtihcdecdkpbpmaaDoorTld
namespace Go.Proofs.YtihcdecdkpbpmaaDoor.Walks
open Go Go.RowKit Go.Proofs.YtihcdecdkpbpmaaDoor.Aid Go.Proofs.YtihcdecdkpbpmaaDoor.Pth Go.Proofs.YtihcdecdkpbpmaaDoor.Own Go.Proofs.YtihcdecdkpbpmaaDoor.OwnS Go.Proofs.YtihcdecdkpbpmaaDoorW.PrintWords

def withKids (N : Nd) (A : Option Addr) (n c : Nat) : Nd := { N with A := A, n := n, c := c }
/-- The first k of the nodes have their kids. -/
structure Part (P : List (List Str)) (d : Nat) (f : List Str) (base : Nat) (v : Value) (u : World) (ms : List Nd) (k : Nat) : Prop where
  names : ms.map (·.name) = kidN P f
  ents : ∀ N ∈ ms, N.ent = entN P (f ++ [N.name])
  kids : ∀ j N, j < k → ms[j]? = some N → TreeIn (fun b => base ≤ b ∧ some b ≠ v.ownBlock) P d (f ++ [N.name]) u N.kids
theorem part_start {P : List (List Str)} {d : Nat} {f : List Str} {base : Nat} {v : Value} {u : World} {ms : List Nd} (h : Sofar P f ms) : Part P d f base v u ms 0 :=
  ⟨h.1, fun N hN => (h.2 N hN).1, fun j _ hj => absurd hj (Nat.not_lt_zero j)⟩
theorem part_name {P : List (List Str)} {d : Nat} {f : List Str} {base : Nat} {v : Value} {u : World} {ms : List Nd} {k : Nat} (h : Part P d f base v u ms k) {j : Nat} {N : Nd} (hN : ms[j]? = some N) : N.name ∈ kidN P f := by
  rw [← h.names]
  exact List.mem_map.2 ⟨N, List.mem_of_getElem? hN, rfl⟩
/-- One node more: w1 the world ahead of the store. -/
theorem part_more {P : List (List Str)} {d : Nat} {f : List Str} {base g nl c k A2n cn : Nat} {A2 : Option Addr} {w wr W5 w1 : World} {ms : List Nd} {N : Nd}
    (hb : base = w.heap.size) (hU : Only (fun _ => False) w wr) (hO : OwnN base wr (.slice (some ⟨g, 0, none⟩) nl c) ms) (hP : Part P d f base (.slice (some ⟨g, 0, none⟩) nl c) wr ms k) (hN : ms[k]? = some N)
    (h5 : Only (fun _ => False) wr W5) (h1 : Only (fun _ => False) W5 w1) (ht : TreeIn (fun b => W5.heap.size ≤ b) P d (f ++ [N.name]) w1 (.slice A2 A2n cn)) :
    OwnN base (w1.setCell ⟨g, k * 3 + 2, none⟩ (.slice A2 A2n cn)) (.slice (some ⟨g, 0, none⟩) nl c) (ms.set k (withKids N A2 A2n cn)) ∧
    Part P d f base (.slice (some ⟨g, 0, none⟩) nl c) (w1.setCell ⟨g, k * 3 + 2, none⟩ (.slice A2 A2n cn)) (ms.set k (withKids N A2 A2n cn)) (k + 1) ∧
    Only (fun _ => False) w (w1.setCell ⟨g, k * 3 + 2, none⟩ (.slice A2 A2n cn)) := by
  have h01 := h5.trans' h1
  have hg := ownN_lt hO (b := g) rfl
  have hs : Only (fun b => b = g) w1 (w1.setCell ⟨g, k * 3 + 2, none⟩ (.slice A2 A2n cn)) := Only.setCell (S := fun b => b = g) (Only.refl _ w1) (p := ⟨g, k * 3 + 2, none⟩) (Or.inl rfl) _
  have hlt := (List.getElem?_eq_some_iff.1 hN).1
  refine ⟨ownN_set (r := 2) (ownN_only hO h01 (fun _ _ => id)) hN (by decide) rfl, ⟨?_, fun M hM => ?_, fun j M hj hM => ?_⟩, (hU.trans' h01).trans hs (fun b hb2 => Or.inr (by rw [hb2, ← hb]; exact hg.1))⟩
  · rw [← hP.names]
    apply List.ext_getElem?
    intro j
    rw [List.getElem?_map, List.getElem?_map, List.getElem?_set]
    split
    · rename_i e
      subst e
      first | rw [if_pos hlt, hN] | rw [hN]
      rfl
    · rfl
  · obtain ⟨j, hj⟩ := List.mem_iff_getElem?.1 hM
    rw [List.getElem?_set] at hj
    split at hj
    · try rw [if_pos hlt] at hj
      rw [← Option.some.inj hj]
      exact hP.ents N (List.mem_of_getElem? hN)
    · exact hP.ents M (List.mem_of_getElem? hj)
  · rw [List.getElem?_set] at hM
    split at hM
    · try rw [if_pos hlt] at hM
      rw [← Option.some.inj hM]
      have t1 : TreeIn (fun b => W5.heap.size ≤ b) P d (f ++ [N.name]) (w1.setCell ⟨g, k * 3 + 2, none⟩ (.slice A2 A2n cn)) (.slice A2 A2n cn) := ht.only hs (fun b hb2 _ e => by
        have := h5.size
        rw [e] at hb2
        omega)
      refine t1.imp fun b hb2 _ => ⟨?_, fun e => ?_⟩
      · have := h5.size
        have := hU.size
        omega
      · have e2 : b = g := Option.some.inj e
        have := h5.size
        omega
    · rename_i e
      have t0 := hP.kids j M (by omega) hM
      have t1 := t0.only h01 (fun _ _ _ => id)
      refine (t1.only hs (fun b hb2 _ e2 => hb2.2 (by rw [e2]; rfl))).imp fun b hb2 _ => hb2
theorem part_end {P : List (List Str)} {d : Nat} {f : List Str} {base : Nat} {v : Value} {w u : World} {ms : List Nd} {k : Nat} (hb : base = w.heap.size) (hO : OwnN base u v ms) (hP : Part P d f base v u ms k) (hk : ms.length ≤ k) (hU : Only (fun _ => False) w u) : ToldPost P (d + 1) f w (.returned v) u := by
  refine ⟨v, rfl, ⟨ms, (ownN_rd hO).imp (fun b e _ => by have := (ownN_lt hO e).1; omega), hP.names, fun N hN => ⟨hP.ents N hN, ?_⟩⟩, hU⟩
  obtain ⟨j, hj⟩ := List.mem_iff_getElem?.1 hN
  have hlt := (List.getElem?_eq_some_iff.1 hj).1
  exact (hP.kids j N (by omega) hj).imp fun b hb2 _ => by have := hb2.1; omega
/-- What the last region keeps: one cell of a block; all the rest but that block. -/
def KeepC (wr : World) (g o : Nat) (T : ByteArray) (u : World) : Prop := Only (fun b => b = g) wr u ∧ u.cell? ⟨g, o, none⟩ = some (.string T)
theorem keepC {wr u : World} {g o : Nat} {T : ByteArray} (hc : wr.cell? ⟨g, o, none⟩ = some (.string T)) (h : Only (fun _ => False) wr u) : Only (fun b => b = g) wr u ∧ u.cell? ⟨g, o, none⟩ = some (.string T) :=
  ⟨h.mono (S' := fun b => b = g) (fun _ _ h => h.elim), h.cell hc id⟩
theorem keepC_set {wr u : World} {g o j : Nat} {T : ByteArray} {v : Value} (hc : wr.cell? ⟨g, o, none⟩ = some (.string T)) (h : Only (fun _ => False) wr u) (hj : o ≠ j) : Only (fun b => b = g) wr (u.setCell ⟨g, j, none⟩ v) ∧ (u.setCell ⟨g, j, none⟩ v).cell? ⟨g, o, none⟩ = some (.string T) := by
  refine ⟨(h.mono (S' := fun b => b = g) (fun _ _ h => h.elim)).setCell (p := ⟨g, j, none⟩) (Or.inl rfl) _, ?_⟩
  have h1 := h.cell hc id
  cases hb : u.heap[g]? with
  | none => simp [World.cell?, hb] at h1
  | some o2 =>
    cases o2 with
    | cells cs t z =>
      have h2 : (u.setCell ⟨g, j, none⟩ v).heap[g]? = some (.cells (cs.setIfInBounds j v) t z) := Joins.block_setCell hb v
      rw [Joins.cell_of_block h2]
      rw [Joins.cell_of_block hb] at h1
      rw [Array.getElem?_setIfInBounds, if_neg (fun e => hj e.symm)]
      exact h1
    | _ => simp [World.cell?, hb] at h1
end Go.Proofs.YtihcdecdkpbpmaaDoor.Walks
