/- What formats can hold, of the law's own entries. -/
import Derived.Test.YtdkfemmjoabbcaaDoorTold
namespace Go.Proofs.YtdkfemmjoabbcaaDoor.Walks
open Go Go.RowKit Go.Proofs.YtdkfemmjoabbcaaDoor.Aid Go.Proofs.YtdkfemmjoabbcaaDoor.Pth Go.Proofs.YtdkfemmjoabbcaaDoor.Own Go.Proofs.YtdkfemmjoabbcaaDoorW.PrintWords

def fE (m : Int) (t : Nat) (D : Str) : Ent := ⟨[102], 1, m, 0, 0, t, [], D⟩
def dE (m : Int) (t : Nat) : Ent := ⟨[100], 2, m, 0, 0, t, [], []⟩
def hE (t : Nat) : Ent := ⟨[104], 4, 0, 0, 0, t, [102], []⟩
def kE (t : Nat) : Ent := ⟨[107], 3, 0, 0, 0, t, [46, 46, 47, 46, 46], []⟩
def tE (m : Int) (t : Nat) (D : Str) : Ent := ⟨trailer, 1, m, 0, 0, t, [], D⟩
section
variable {m : Int} {t : Nat} {D : Str} (h0 : 0 ≤ m) (h1 : m ≤ 4095) (hD : D.length ≤ 100)
include h0 h1 hD in
theorem may_f : mayL (fE m t D) = true := by
  unfold mayL headE bodyE fE
  dsimp only
  rw [decide_eq_true h0, decide_eq_true h1, if_pos rfl, decide_eq_true (show D.length ≤ 1073741824 by omega)]
  rfl
include h0 h1 hD in
theorem may_t : mayL (tE m t D) = true := by
  unfold mayL headE bodyE tE
  dsimp only
  rw [decide_eq_true h0, decide_eq_true h1, if_pos rfl, decide_eq_true (show D.length ≤ 1073741824 by omega)]
  rfl
include h0 h1 in
theorem may_d : mayL (dE m t) = true := by
  unfold mayL headE bodyE dE
  dsimp only
  rw [decide_eq_true h0, decide_eq_true h1]
  rfl
theorem may_h : mayL (hE t) = true := rfl
theorem may_k : mayL (kE t) = true := rfl
theorem at_f {E : Ent} (pre : List Ent) (h : mayL E = true) (hk : decide (E.kind = 4) = false) : listAt pre E = true := by
  unfold listAt
  rw [h, hk]; rfl
end
theorem list1 {a : Ent} (h : listAt [] a = true) : listL [a] = -1 := list_all (fun j hj => by
  obtain rfl : j = 0 := by have : j < 1 := hj; omega
  exact h)
theorem list2 {a b : Ent} (h : listAt [] a = true) (k : listAt [a] b = true) : listL [a, b] = -1 := list_all (fun j hj => by
  have : j < 2 := hj
  rcases (show j = 0 ∨ j = 1 by omega) with rfl | rfl
  · exact h
  · exact k)
theorem list3 {a b c : Ent} (h : listAt [] a = true) (k : listAt [a] b = true) (l : listAt [a, b] c = true) : listL [a, b, c] = -1 := list_all (fun j hj => by
  have : j < 3 := hj
  rcases (show j = 0 ∨ j = 1 ∨ j = 2 by omega) with rfl | rfl | rfl
  · exact h
  · exact k
  · exact l)
theorem rep_of {l : List Ent} {i : Int} (hi : 1 ≤ i) (hj : i ≤ 5) (h : listL l = -1) : repL l i = repFrom l i := by
  unfold repL
  rw [if_neg (by omega), h, if_neg (by decide)]
theorem from1 {a : Ent} {i : Int} (h : holdsL a 0 i = true) : repFrom [a] i = -1 := by
  rw [rep_all (fun j hj => by
    obtain rfl : j = 0 := by have : j < 1 := hj; omega
    exact h), if_neg (fun h => absurd h.1 (by simp))]
theorem from2 {a b : Ent} {i : Int} (h : holdsL a 0 i = true) (k : holdsL b 1 i = true) : repFrom [a, b] i = -1 := by
  rw [rep_all (fun j hj => by
    have : j < 2 := hj
    rcases (show j = 0 ∨ j = 1 by omega) with rfl | rfl
    · exact h
    · exact k), if_neg (fun h => absurd h.1 (by simp))]
theorem from3 {a b c : Ent} {i : Int} (h : holdsL a 0 i = true) (k : holdsL b 1 i = true) (l : holdsL c 2 i = true) : repFrom [a, b, c] i = -1 := by
  rw [rep_all (fun j hj => by
    have : j < 3 := hj
    rcases (show j = 0 ∨ j = 1 ∨ j = 2 by omega) with rfl | rfl | rfl
    · exact h
    · exact k
    · exact l), if_neg (fun h => absurd h.1 (by simp))]
theorem stop1 {a b : Ent} {i : Int} (h : holdsL a 0 i = true) (k : holdsL b 1 i = false) : repFrom [a, b] i = 1 :=
  rep_stop (i := 1) (show 1 < 2 by decide) k (fun j hj => by
    obtain rfl : j = 0 := by omega
    exact h)
section
variable {m : Int} {t : Nat} {D : Str} (h0 : 0 ≤ m) (h1 : m ≤ 4095) (hD : D.length ≤ 100) {i : Int} (hi : 1 ≤ i) (hj : i ≤ 5)
include hi hj
theorem five {p : Int → Prop} (a1 : p 1) (a2 : p 2) (a3 : p 3) (a4 : p 4) (a5 : p 5) : p i := by
  rcases (show i = 1 ∨ i = 2 ∨ i = 3 ∨ i = 4 ∨ i = 5 by omega) with rfl | rfl | rfl | rfl | rfl <;> assumption
include h0 h1 hD in
theorem rep_f : repL [fE m t D] i = -1 := by
  rw [rep_of hi hj (list1 (at_f _ (may_f h0 h1 hD) rfl))]
  exact from1 (five hi hj (p := fun i => holdsL (fE m t D) 0 i = true) rfl rfl rfl rfl rfl)
include h0 h1 hD in
theorem rep_dfk : (repL [dE m t, fE m t D, kE t] i == -1) = decide (i ≤ 3) := by
  rw [rep_of hi hj (list3 (at_f _ (may_d h0 h1) rfl) (at_f _ (may_f h0 h1 hD) rfl) (at_f _ may_k rfl))]
  refine five hi hj (p := fun i => (repFrom [dE m t, fE m t D, kE t] i == -1) = decide (i ≤ 3)) ?_ ?_ ?_ ?_ ?_
  · rw [from3 rfl rfl rfl]; rfl
  · rw [from3 rfl rfl rfl]; rfl
  · rw [from3 rfl rfl rfl]; rfl
  · rw [rep_stop (l := [dE m t, fE m t D, kE t]) (i := 0) (show 0 < 3 by decide) rfl (fun j hj => absurd hj (by omega))]; rfl
  · rw [rep_stop (l := [dE m t, fE m t D, kE t]) (i := 0) (show 0 < 3 by decide) rfl (fun j hj => absurd hj (by omega))]; rfl
theorem rep_nil : (repL [] i == -1) = decide (i ≤ 3) := by
  rw [rep_of hi hj rfl]
  exact five hi hj (p := fun i => (repFrom [] i == -1) = decide (i ≤ 3)) rfl rfl rfl rfl rfl
theorem rep_hf : repL [hE t, fE m t D] i = 0 := by
  unfold repL
  rw [if_neg (by omega), list_stop (i := 0) (l := [hE t, fE m t D]) (show 0 < 2 by decide) rfl (fun j hj => absurd hj (by omega))]
  rfl
include h0 h1 hD in
theorem rep_fh : repL [fE m t D, hE t] i = [0, 1, -1, -1, 1, 1].getD i.toNat 0 := by
  rw [rep_of hi hj (list2 (at_f _ (may_f h0 h1 hD) rfl) rfl)]
  refine five hi hj (p := fun i => repFrom [fE m t D, hE t] i = [0, 1, -1, -1, 1, 1].getD i.toNat 0) ?_ ?_ ?_ ?_ ?_
  · exact stop1 rfl rfl
  · exact from2 rfl rfl
  · exact from2 rfl rfl
  · exact stop1 rfl rfl
  · exact stop1 rfl rfl
end
section
variable {m : Int} {t : Nat} {D : Str} (h0 : 0 ≤ m) (h1 : m ≤ 4095) (hD : D.length ≤ 100)
include h0 h1 hD in
theorem rep_dt3 : repL [dE m t, tE m t D] 3 = 1 := by
  rw [rep_of (by decide) (by decide) (list2 (at_f _ (may_d h0 h1) rfl) (at_f _ (may_t h0 h1 hD) rfl))]
  exact stop1 rfl rfl
include h0 h1 hD in
theorem rep_dt2 : repL [dE m t, tE m t D] 2 = -1 := by
  rw [rep_of (by decide) (by decide) (list2 (at_f _ (may_d h0 h1) rfl) (at_f _ (may_t h0 h1 hD) rfl))]
  exact from2 rfl rfl
end
/-- Rep of a slice that was just laid. -/
theorem rep_lit {w : World} (es : List Ent3) (l : List Ent) (n : Nat) (fm r : Int) (C : Array Value) (hC : (flat es).toArray = C) (hE : ∀ e ∈ es, EntAt w e.1 e.2.1 e.2.2 ∧ EOk e.1 ∧ -9223372036854775808 ≤ e.1.kind ∧ e.1.kind ≤ 9223372036854775807) (hl : es.map (·.1) = l) (hn : l.length = n) (hb : n ≤ 100000) (hm : MaxLen w) (hr : repL l fm = r) :
    Calls Tryd.prog 12 #[.slice (some ⟨w.heap.size, 0, none⟩) n n, .int .i64 fm] (w.alloc (.cells C 25)) fun x w' => x = .returned (.int .i64 r) ∧ Only (fun _ => False) w w' := by
  subst hl hr
  have ho := (Only.refl (fun _ => False) w).alloc (.cells C 25)
  refine (rep_any (c := n) fm hn hb (rde_lit es hC.symm (fun e he => (hE e he).1)) (fun E h => ?_) (hm.only ho)).mono fun x w' h => ⟨h.1, ho.trans' h.2⟩
  obtain ⟨e, he, rfl⟩ := List.mem_map.1 h
  exact (hE e he).2
theorem ok_f {m : Int} {t : Nat} {D : Str} (hD : D.length ≤ 100) : EOk (fE m t D) ∧ -9223372036854775808 ≤ (fE m t D).kind ∧ (fE m t D).kind ≤ 9223372036854775807 := ⟨⟨by unfold fE; dsimp only; decide, by unfold fE; dsimp only; decide, by show D.length ≤ _; omega⟩, by unfold fE; dsimp only; decide, by unfold fE; dsimp only; decide⟩
theorem ok_t {m : Int} {t : Nat} {D : Str} (hD : D.length ≤ 100) : EOk (tE m t D) ∧ -9223372036854775808 ≤ (tE m t D).kind ∧ (tE m t D).kind ≤ 9223372036854775807 := ⟨⟨by unfold tE; dsimp only; decide, by unfold tE; dsimp only; decide, by show D.length ≤ _; omega⟩, by unfold tE; dsimp only; decide, by unfold tE; dsimp only; decide⟩
theorem ok_d {m : Int} {t : Nat} : EOk (dE m t) ∧ -9223372036854775808 ≤ (dE m t).kind ∧ (dE m t).kind ≤ 9223372036854775807 := ⟨⟨by unfold dE; dsimp only; decide, by unfold dE; dsimp only; decide, by unfold dE; dsimp only; decide⟩, by unfold dE; dsimp only; decide, by unfold dE; dsimp only; decide⟩
theorem ok_h {t : Nat} : EOk (hE t) ∧ -9223372036854775808 ≤ (hE t).kind ∧ (hE t).kind ≤ 9223372036854775807 := ⟨⟨by unfold hE; dsimp only; decide, by unfold hE; dsimp only; decide, by unfold hE; dsimp only; decide⟩, by unfold hE; dsimp only; decide, by unfold hE; dsimp only; decide⟩
theorem ok_k {t : Nat} : EOk (kE t) ∧ -9223372036854775808 ≤ (kE t).kind ∧ (kE t).kind ≤ 9223372036854775807 := ⟨⟨by unfold kE; dsimp only; decide, by unfold kE; dsimp only; decide, by unfold kE; dsimp only; decide⟩, by unfold kE; dsimp only; decide, by unfold kE; dsimp only; decide⟩
/-- The law's four variables. -/
structure Four (w : World) (g7 g8 g9 g10 : Nat) (m : Int) (t : Nat) (F : Ent) (A : Option Addr) (c : Nat) (u : World) : Prop where
  b7 : u.heap[g7]? = some (.cells (erow F A c) 25 (0, 0))
  b8 : u.heap[g8]? = some (.cells (erow (dE m t) none 0) 25 (0, 0))
  b9 : u.heap[g9]? = some (.cells (erow (hE t) none 0) 25 (0, 0))
  b10 : u.heap[g10]? = some (.cells (erow (kE t) none 0) 25 (0, 0))
  only : Only (fun _ => False) w u
theorem Four.step {w u u' : World} {g7 g8 g9 g10 : Nat} {m : Int} {t : Nat} {F : Ent} {A : Option Addr} {c : Nat} (h : Four w g7 g8 g9 g10 m t F A c u) (ho : Only (fun _ => False) u u') : Four w g7 g8 g9 g10 m t F A c u' :=
  ⟨ho.keeps h.b7 id, ho.keeps h.b8 id, ho.keeps h.b9 id, ho.keeps h.b10 id, h.only.trans' ho⟩
end Go.Proofs.YtdkfemmjoabbcaaDoor.Walks
