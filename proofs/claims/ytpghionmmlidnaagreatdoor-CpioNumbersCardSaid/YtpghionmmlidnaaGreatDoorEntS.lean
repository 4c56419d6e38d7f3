/- Slices of entries that were just laid, block by block. -/
import Derived.Test.YtpghionmmlidnaaGreatDoorLst
namespace Go.Proofs.YtpghionmmlidnaaGreatDoor.Walks
open Go Go.RowKit Go.Proofs.YtpghionmmlidnaaGreatDoor.Aid Go.Proofs.YtpghionmmlidnaaGreatDoor.Pth Go.Proofs.YtpghionmmlidnaaGreatDoor.Own Go.Proofs.YtpghionmmlidnaaGreatDoorW.PrintWords

/-- An entry, where its data lies, the data's capacity. -/
abbrev Ent3 := Ent × Option Addr × Nat
def flat (es : List Ent3) : List Value := es.flatMap (fun e => (erow e.1 e.2.1 e.2.2).toList)
theorem flat_get : ∀ (es : List Ent3) (i j : Nat) (e : Ent3), es[i]? = some e → j < 8 → (flat es)[i * 8 + j]? = (erow e.1 e.2.1 e.2.2)[j]?
  | [], i, j, e, h, _ => by simp at h
  | x :: r, 0, j, e, h, hj => by
    have hx : x = e := by simpa using h
    subst hx
    have : flat (x :: r) = (erow x.1 x.2.1 x.2.2).toList ++ flat r := rfl
    rw [this, List.getElem?_append_left (by show 0 * 8 + j < 8; omega), Nat.zero_mul, Nat.zero_add, Array.getElem?_toList]
  | x :: r, i + 1, j, e, h, hj => by
    have h' : r[i]? = some e := by simpa using h
    have : flat (x :: r) = (erow x.1 x.2.1 x.2.2).toList ++ flat r := rfl
    rw [this, List.getElem?_append_right (by show 8 ≤ (i + 1) * 8 + j; omega), show (i + 1) * 8 + j - (erow x.1 x.2.1 x.2.2).toList.length = i * 8 + j from by show (i + 1) * 8 + j - 8 = _; omega]
    exact flat_get r i j e h' hj
theorem rde_lit {w : World} {C : Array Value} (es : List Ent3) (hC : C = (flat es).toArray) (hE : ∀ e ∈ es, EntAt w e.1 e.2.1 e.2.2) :
    RdE (w.alloc (.cells C 47)) (some ⟨w.heap.size, 0, none⟩) (es.map (·.1)) (fun i => ((es[i]?.map (·.2)).getD (none, 0))) := fun i E hi => by
  rw [List.getElem?_map] at hi
  obtain ⟨e, he, hee⟩ := Option.map_eq_some_iff.1 hi
  subst hee
  have ho := (Only.refl (fun _ => False) w).alloc (.cells C 47)
  have hb := alloc_new w (.cells C 47)
  dsimp only
  rw [he]
  refine ⟨(hE e (List.mem_of_getElem? he)).only ho, _, rfl, fun j v hv => ?_⟩
  have hj : j < 8 := by
    by_cases c : j < 8
    · exact c
    · have : (erow e.1 (((some e).map (·.2)).getD (none, 0)).1 (((some e).map (·.2)).getD (none, 0)).2)[j]? = none := Array.getElem?_eq_none (by show 8 ≤ j; omega)
      rw [this] at hv; cases hv
  have h1 := flat_get es i j e he hj
  have h2 : (w.alloc (.cells C 47)).cell? ⟨w.heap.size, i * 8 + j, none⟩ = C[i * 8 + j]? := Joins.cell_of_block hb _
  have h3 : (⟨w.heap.size, 0, none⟩ : Addr).add (i * 8 + j) = ⟨w.heap.size, i * 8 + j, none⟩ := by
    unfold Addr.add; split <;> simp_all
  rw [h3, h2, hC, List.getElem?_toArray, h1]
  exact hv
theorem lay1 (W : World) (e : Ent3) : (Instr.buildSlice 22 1 #[(0, eval e.1 e.2.1 e.2.2)]).run Tryz.prog W = .ok (.slice (some ⟨W.heap.size, 0, none⟩) 1 1) (W.alloc (.cells (flat [e]).toArray 47)) := by
  kernel_rfl
theorem lay2 (W : World) (e f : Ent3) : (Instr.buildSlice 22 2 #[(0, eval e.1 e.2.1 e.2.2), (1, eval f.1 f.2.1 f.2.2)]).run Tryz.prog W = .ok (.slice (some ⟨W.heap.size, 0, none⟩) 2 2) (W.alloc (.cells (flat [e, f]).toArray 47)) := by
  kernel_rfl
theorem lay3 (W : World) (e f g : Ent3) : (Instr.buildSlice 22 3 #[(0, eval e.1 e.2.1 e.2.2), (1, eval f.1 f.2.1 f.2.2), (2, eval g.1 g.2.1 g.2.2)]).run Tryz.prog W = .ok (.slice (some ⟨W.heap.size, 0, none⟩) 3 3) (W.alloc (.cells (flat [e, f, g]).toArray 47)) := by
  kernel_rfl
section
variable {ops : Array Oper} {rest : List Oper} {o : Oper} {a : Act} {Q : Exit → Act → World → Prop}
/-- A slice of 1 is laid. -/
theorem build1 {W : World} (hgd : o.guard = none) (x : Operand) (ho : o.op = .buildSlice 22 1 #[(0, x)]) (e : Ent3) (hx : a.eval x = eval e.1 e.2.1 e.2.2) (hE : ∀ d ∈ [e], EntAt W d.1 d.2.1 d.2.2)
    (h : ∀ b w1, RdE w1 (some ⟨b, 0, none⟩) [e.1] (fun i => (([e][i]?.map (·.2)).getD (none, 0))) → Only (fun _ => False) W w1 → wpList Tryz.prog ops Q rest (a.put o.dst (.slice (some ⟨b, 0, none⟩) 1 1)) w1) : wpList Tryz.prog ops Q (o :: rest) a W := by
  have h1 := h W.heap.size (W.alloc (.cells (flat [e]).toArray 47)) (rde_lit [e] rfl hE) ((Only.refl (fun _ => False) W).alloc _)
  refine wpList_plain hgd fun K2 hK => ?_
  unfold Oper.wp execOp
  have e1 : (#[(0, x)] : Array (Nat × Operand)).map (fun p => (p.1, a.eval p.2)) = #[(0, eval e.1 e.2.1 e.2.2)] := by simp only [List.map_toArray, List.map_cons, List.map_nil, hx]
  simp only [ho, e1, Sem.run_bind, Sem.run_pure, Result.andThen_ok, lay1]
  exact hK _ _ h1
/-- A slice of 2 is laid. -/
theorem build2 {W : World} (hgd : o.guard = none) (x y : Operand) (ho : o.op = .buildSlice 22 2 #[(0, x), (1, y)]) (e f : Ent3) (hx : a.eval x = eval e.1 e.2.1 e.2.2) (hy : a.eval y = eval f.1 f.2.1 f.2.2) (hE : ∀ d ∈ [e, f], EntAt W d.1 d.2.1 d.2.2)
    (h : ∀ b w1, RdE w1 (some ⟨b, 0, none⟩) [e.1, f.1] (fun i => (([e, f][i]?.map (·.2)).getD (none, 0))) → Only (fun _ => False) W w1 → wpList Tryz.prog ops Q rest (a.put o.dst (.slice (some ⟨b, 0, none⟩) 2 2)) w1) : wpList Tryz.prog ops Q (o :: rest) a W := by
  have h1 := h W.heap.size (W.alloc (.cells (flat [e, f]).toArray 47)) (rde_lit [e, f] rfl hE) ((Only.refl (fun _ => False) W).alloc _)
  refine wpList_plain hgd fun K2 hK => ?_
  unfold Oper.wp execOp
  have e1 : (#[(0, x), (1, y)] : Array (Nat × Operand)).map (fun p => (p.1, a.eval p.2)) = #[(0, eval e.1 e.2.1 e.2.2), (1, eval f.1 f.2.1 f.2.2)] := by simp only [List.map_toArray, List.map_cons, List.map_nil, hx, hy]
  simp only [ho, e1, Sem.run_bind, Sem.run_pure, Result.andThen_ok, lay2]
  exact hK _ _ h1
/-- A slice of 3 is laid. -/
theorem build3 {W : World} (hgd : o.guard = none) (x y z : Operand) (ho : o.op = .buildSlice 22 3 #[(0, x), (1, y), (2, z)]) (e f g : Ent3) (hx : a.eval x = eval e.1 e.2.1 e.2.2) (hy : a.eval y = eval f.1 f.2.1 f.2.2) (hz : a.eval z = eval g.1 g.2.1 g.2.2) (hE : ∀ d ∈ [e, f, g], EntAt W d.1 d.2.1 d.2.2)
    (h : ∀ b w1, RdE w1 (some ⟨b, 0, none⟩) [e.1, f.1, g.1] (fun i => (([e, f, g][i]?.map (·.2)).getD (none, 0))) → Only (fun _ => False) W w1 → wpList Tryz.prog ops Q rest (a.put o.dst (.slice (some ⟨b, 0, none⟩) 3 3)) w1) : wpList Tryz.prog ops Q (o :: rest) a W := by
  have h1 := h W.heap.size (W.alloc (.cells (flat [e, f, g]).toArray 47)) (rde_lit [e, f, g] rfl hE) ((Only.refl (fun _ => False) W).alloc _)
  refine wpList_plain hgd fun K2 hK => ?_
  unfold Oper.wp execOp
  have e1 : (#[(0, x), (1, y), (2, z)] : Array (Nat × Operand)).map (fun p => (p.1, a.eval p.2)) = #[(0, eval e.1 e.2.1 e.2.2), (1, eval f.1 f.2.1 f.2.2), (2, eval g.1 g.2.1 g.2.2)] := by simp only [List.map_toArray, List.map_cons, List.map_nil, hx, hy, hz]
  simp only [ho, e1, Sem.run_bind, Sem.run_pure, Result.andThen_ok, lay3]
  exact hK _ _ h1
end
end Go.Proofs.YtpghionmmlidnaaGreatDoor.Walks
