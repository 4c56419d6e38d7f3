/- Another name behind a list of entries of one path: which may stand there. Plain. -/
import Derived.Test.YtihcdecdkpbpmaaDoorRMay
import Derived.Test.YtihcdecdkpbpmaaDoorAppE
namespace Go.Proofs.YtihcdecdkpbpmaaDoor.Walks
open Go Go.RowKit Go.Proofs.YtihcdecdkpbpmaaDoor.Aid Go.Proofs.YtihcdecdkpbpmaaDoor.Pth Go.Proofs.YtihcdecdkpbpmaaDoor.Own Go.Proofs.YtihcdecdkpbpmaaDoorW.PrintWords

def fE : Ent := ⟨[102], 1, 0, 0, 0, 0, [], []⟩
def zE : Ent := ⟨[122], 4, 0, 0, 0, 0, [97], []⟩
def aE (k : Int) : Ent := ⟨[97], 1 + k, 0, 0, 0, 0, if k = 2 then [120] else if k = 3 then [102] else [], []⟩
def hL (g : Nat → Int) (i : Nat) : List Ent := fE :: (List.range i).map (fun j => aE (g j))
def lastA (g : Nat → Int) : Nat → Int
  | 0 => 0
  | i + 1 => 1 + g i
section
variable {g : Nat → Int}
theorem hL_snoc (i : Nat) : hL g (i + 1) = hL g i ++ [aE (g i)] := by
  unfold hL
  rw [List.range_succ, List.map_append]
  rfl
theorem hL_len (i : Nat) : (hL g i).length = i + 1 := by simp [hL]
theorem may_f : mayL fE = true := by kernel_rfl
theorem may_z : mayL zE = true := by kernel_rfl
theorem may_a0 : mayL (aE 0) = true := by kernel_rfl
theorem may_a1 : mayL (aE 1) = true := by kernel_rfl
theorem may_a2 : mayL (aE 2) = true := by kernel_rfl
theorem may_a3 : mayL (aE 3) = true := by kernel_rfl
theorem may_a {k : Int} (h0 : 0 ≤ k) (h1 : k < 4) : mayL (aE k) = true := by
  have h : k = 0 ∨ k = 1 ∨ k = 2 ∨ k = 3 := by omega
  rcases h with h | h | h | h
  · rw [h, may_a0]
  · rw [h, may_a1]
  · rw [h, may_a2]
  · rw [h, may_a3]
theorem lastKind_snoc (l : List Ent) (E : Ent) (t : Str) : lastKind (l ++ [E]) t = if E.path = t then E.kind else lastKind l t := by
  unfold lastKind
  rw [List.foldl_append]
  rfl
theorem last_f : ∀ i, lastKind (hL g i) [102] = 1
  | 0 => rfl
  | i + 1 => by
    rw [hL_snoc, lastKind_snoc, if_neg (by show ¬ ([97] : Str) = [102]; decide)]
    exact last_f i
theorem last_a : ∀ i, lastKind (hL g i) [97] = lastA g i
  | 0 => rfl
  | i + 1 => by
    rw [hL_snoc, lastKind_snoc, if_pos (by rfl)]
    rfl
theorem hL_take {i n : Nat} (h : i ≤ n) : (hL g n).take (i + 1) = hL g i := by
  unfold hL
  rw [List.take_succ_cons, ← List.map_take, List.take_range, Nat.min_eq_left h]
theorem hL_get {i n : Nat} (h : i < n) : (hL g n).getD (i + 1) e0 = aE (g i) := by
  unfold hL
  rw [List.getD_eq_getElem?_getD, List.getElem?_cons_succ, List.getElem?_map, List.getElem?_range h]
  rfl
theorem hL_at (hg : ∀ j, 0 ≤ g j ∧ g j < 4) {n j : Nat} (hj : j < n + 1) : listAt ((hL g n).take j) ((hL g n).getD j e0) = true := by
  cases j with
  | zero =>
    rw [List.take_zero]
    show listAt [] fE = true
    kernel_rfl
  | succ i =>
    rw [hL_take (by omega), hL_get (by omega)]
    unfold listAt
    rw [may_a (hg i).1 (hg i).2]
    by_cases h3 : g i = 3
    · have : (aE (g i)).target = [102] := by rw [h3]; rfl
      rw [this, last_f]
      simp
    · have : ¬ (aE (g i)).kind = 4 := fun e => h3 (by have e' : 1 + g i = 4 := e; omega)
      rw [decide_eq_false this]
      rfl
theorem hards_before (hg : ∀ j, 0 ≤ g j ∧ g j < 4) (n : Nat) : listL (hL g n) = -1 := list_all fun j hj => by
  rw [hL_len] at hj
  exact hL_at hg hj
theorem hards_pre {n j : Nat} (hj : j < n + 1) : (hL g n ++ [zE]).take j = (hL g n).take j ∧ (hL g n ++ [zE]).getD j e0 = (hL g n).getD j e0 := by
  refine ⟨List.take_append_of_le_length (by rw [hL_len]; omega), ?_⟩
  rw [List.getD_eq_getElem?_getD, List.getD_eq_getElem?_getD, List.getElem?_append_left (by rw [hL_len]; omega)]
theorem hards_end (n : Nat) : (hL g n ++ [zE]).take (n + 1) = hL g n ∧ (hL g n ++ [zE]).getD (n + 1) e0 = zE := by
  constructor
  · have := List.take_left' (l₁ := hL g n) (l₂ := [zE]) (hL_len n)
    exact this
  · rw [List.getD_eq_getElem?_getD, List.getElem?_append_right (by rw [hL_len]; omega), hL_len, Nat.sub_self]
    rfl
theorem listAt_z (n : Nat) : listAt (hL g n) zE = decide (lastA g n = 1) := by
  unfold listAt
  rw [may_z, show zE.target = [97] from rfl, last_a, show zE.kind = 4 from rfl]
  simp
theorem hards_after (hg : ∀ j, 0 ≤ g j ∧ g j < 4) (n : Nat) : listL (hL g n ++ [zE]) = if lastA g n = 1 then -1 else ((n + 1 : Nat) : Int) := by
  have hlen : (hL g n ++ [zE]).length = n + 2 := by rw [List.length_append, hL_len]; rfl
  obtain ⟨e1, e2⟩ := hards_end (g := g) n
  by_cases h : lastA g n = 1
  · rw [if_pos h]
    refine list_all fun j hj => ?_
    rw [hlen] at hj
    by_cases c : j < n + 1
    · rw [(hards_pre c).1, (hards_pre c).2]
      exact hL_at hg c
    · obtain rfl : j = n + 1 := by omega
      rw [e1, e2, listAt_z, decide_eq_true h]
  · rw [if_neg h]
    refine list_stop (by rw [hlen]; omega) ?_ fun j hj => ?_
    · rw [e1, e2, listAt_z, decide_eq_false h]
    · rw [(hards_pre hj).1, (hards_pre hj).2]
      exact hL_at hg hj
theorem hards_find (n : Nat) : findL (hL g n ++ [zE]) [122] = ((n + 1 : Nat) : Int) := by
  have hlen : (hL g n ++ [zE]).length = n + 1 + 1 := by rw [List.length_append, hL_len]; rfl
  unfold findL
  rw [hlen]
  unfold findAt
  rw [(hards_end (g := g) n).2, if_pos (by rfl)]
theorem hards_ok (hg : ∀ j, 0 ≤ g j ∧ g j < 4) (n : Nat) : EsOk (hL g n) := fun E hE => by
  rcases List.mem_cons.1 hE with rfl | hE
  · exact ⟨⟨by decide, by decide, by decide⟩, by decide, by decide⟩
  · obtain ⟨j, _, rfl⟩ := List.mem_map.1 hE
    obtain ⟨h0, h1⟩ := hg j
    refine ⟨⟨by show 1 ≤ _; decide, ?_, by show 0 ≤ _; decide⟩, by show _ ≤ 1 + g j; omega, by show 1 + g j ≤ _; omega⟩
    have : ∀ k : Int, (aE k).target.length ≤ 1 := fun k => by
      unfold aE
      dsimp only
      split
      · exact Nat.le_refl _
      · split
        · exact Nat.le_refl _
        · exact Nat.zero_le _
    exact Nat.le_trans (this _) (by decide)
theorem hards_okz (hg : ∀ j, 0 ≤ g j ∧ g j < 4) (n : Nat) : EsOk (hL g n ++ [zE]) := fun E hE => by
  rcases List.mem_append.1 hE with hE | hE
  · exact hards_ok hg n E hE
  · rw [List.mem_singleton.1 hE]; exact ⟨⟨by decide, by decide, by decide⟩, by decide, by decide⟩
end
def noD (E : Ent) : Ent3 := (E, none, 0)
theorem ownE_lit {W : World} {base : Nat} (hb : base ≤ W.heap.size) (E : Ent) (hd : E.data = []) : OwnE base (W.alloc (.cells (flat [noD E]).toArray 32)) (.slice (some ⟨W.heap.size, 0, none⟩) 1 1) [noD E] :=
  ⟨⟨flat_len _, Or.inr ⟨W.heap.size, 1, (flat [noD E]).toArray, rfl, hb, alloc_new W _, Nat.le_refl _, by decide, rfl, rfl⟩⟩, fun e he => by
    rw [List.mem_singleton.1 he]
    exact ⟨⟨by show RdU _ _ E.data; rw [hd]; exact RdU.nil _ _, by show E.data.length ≤ 0; rw [hd]; exact Nat.le_refl _⟩, fun ad e => by cases e⟩⟩
section
variable {ops : Array Oper} {rest : List Oper} {o : Oper} {a : Act} {Q : Exit → Act → World → Prop}
/-- A slice of one is laid, the call's own. -/
theorem buildO1 {W : World} {base : Nat} (hb : base ≤ W.heap.size) (hgd : o.guard = none) (x : Operand) (ho : o.op = .buildSlice 22 1 #[(0, x)]) (E : Ent) (hd : E.data = []) (hx : a.eval x = eval E none 0)
    (h : ∀ v w1, OwnE base w1 v [noD E] → Only (fun _ => False) W w1 → wpList Tryd.prog ops Q rest (a.put o.dst v) w1) : wpList Tryd.prog ops Q (o :: rest) a W := by
  have h1 := h _ _ (ownE_lit hb E hd) ((Only.refl (fun _ => False) W).alloc _)
  refine wpList_plain hgd fun K2 hK => ?_
  unfold Oper.wp execOp
  have e1 : (#[(0, x)] : Array (Nat × Operand)).map (fun p => (p.1, a.eval p.2)) = #[(0, eval (noD E).1 (noD E).2.1 (noD E).2.2)] := by simp only [List.map_toArray, List.map_cons, List.map_nil, hx]; rfl
  simp only [ho, e1, Sem.run_bind, Sem.run_pure, Result.andThen_ok, lay1]
  exact hK _ _ h1
end
theorem rde_take {w : World} {A : Option Addr} {l : List Ent} {M : Nat → Option Addr × Nat} (h : RdE w A l M) (k : Nat) : RdE w A (l.take k) M := fun i E hi => h i E (by
  rw [List.getElem?_take] at hi
  split at hi
  · exact hi
  · cases hi)
end Go.Proofs.YtihcdecdkpbpmaaDoor.Walks
