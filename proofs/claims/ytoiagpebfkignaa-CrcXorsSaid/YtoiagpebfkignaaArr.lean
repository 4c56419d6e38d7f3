/- Arrays of numbers of 32 bits in memory, told by a function; no condition beyond those that each lemma names. -/
import Derived.Test.YtoiagpebfkignaaStep
import Derived.Deep.WholeRow
import Derived.Deep.MidRow
namespace Go.Proofs.Ytoiagpebfkignaa.Walks
open Go Go.RowKit Go.Proofs.Ytoiagpebfkignaa.Aid Go.Proofs.Ytoiagpebfkignaa.Plain

/-- The cells read as the numbers f 0 .. f (n - 1). -/
def Are (C : Array Value) (n : Nat) (f : Nat → BitVec 32) : Prop := C.size = n ∧ ∀ j, j < n → C[j]? = some (.int .u32 (nu (f j)))
theorem Are.congr {C : Array Value} {n : Nat} {f g : Nat → BitVec 32} (h : Are C n f) (e : ∀ j, j < n → f j = g j) : Are C n g := ⟨h.1, fun j hj => by rw [h.2 j hj, e j hj]⟩
theorem Are.set {C : Array Value} {n : Nat} {f : Nat → BitVec 32} (h : Are C n f) (i : Nat) (v : BitVec 32) : Are (C.setIfInBounds i (.int .u32 (nu v))) n (fun j => if j = i then v else f j) := by
  refine ⟨by rw [Array.size_setIfInBounds]; exact h.1, fun j hj => ?_⟩
  rw [Array.getElem?_setIfInBounds]
  by_cases e : i = j
  · subst e; simp [h.1, hj]
  · show _ = some (Value.int .u32 (nu (if j = i then v else f j)))
    rw [if_neg e, h.2 j hj, if_neg (Ne.symm e)]
theorem Are.zero (n : Nat) : Are (Array.replicate n (.int .u32 0)) n (fun _ => 0#32) := ⟨by simp, fun j hj => by simp [hj]; decide⟩
def ArrAt (w : World) (g : Nat) (t : TypeId) (n : Nat) (f : Nat → BitVec 32) : Prop := ∃ C, w.heap[g]? = some (.cells C t (0, 0)) ∧ Are C n f
theorem ArrAt.congr {w : World} {g : Nat} {t : TypeId} {n : Nat} {f f' : Nat → BitVec 32} (h : ArrAt w g t n f) (e : ∀ j, j < n → f j = f' j) : ArrAt w g t n f' := by
  obtain ⟨C, h1, h2⟩ := h
  exact ⟨C, h1, h2.congr e⟩
theorem ArrAt.cell {w : World} {g : Nat} {t : TypeId} {n : Nat} {f : Nat → BitVec 32} (h : ArrAt w g t n f) {j : Nat} (hj : j < n) : w.cell? ⟨g, j, none⟩ = some (.int .u32 (nu (f j))) := by
  obtain ⟨C, h1, h2⟩ := h
  rw [Joins.cell_of_block h1 j]
  exact h2.2 j hj
theorem ArrAt.free {w : World} {g : Nat} {t : TypeId} {n : Nat} {f : Nat → BitVec 32} (h : ArrAt w g t n f) (j : Nat) : w.frozen? ⟨g, j, none⟩ = false := by
  obtain ⟨C, h1, _⟩ := h
  exact Joins.unfrozen_of_block h1 j
theorem ArrAt.set {w : World} {g : Nat} {t : TypeId} {n : Nat} {f : Nat → BitVec 32} (h : ArrAt w g t n f) (i : Nat) (v : BitVec 32) : ArrAt (w.setCell ⟨g, i, none⟩ (.int .u32 (nu v))) g t n (fun j => if j = i then v else f j) := by
  obtain ⟨C, h1, h2⟩ := h
  exact ⟨_, Joins.block_setCell h1 _, h2.set i v⟩
theorem ArrAt.drewN {w : World} {g : Nat} {t : TypeId} {n : Nat} {f : Nat → BitVec 32} (h : ArrAt w g t n f) (m : Nat) : ArrAt (w.drewN m) g t n f := h
theorem ArrAt.keep {w w' : World} {g : Nat} {t : TypeId} {n : Nat} {f : Nat → BitVec 32} (h : ArrAt w g t n f) {S : Nat → Prop} (ho : Only S w w') (hs : ¬ S g) : ArrAt w' g t n f := by
  obtain ⟨C, h1, h2⟩ := h
  exact ⟨C, ho.keeps h1 hs, h2⟩
theorem ArrAt.new (w : World) (t : TypeId) {n : Nat} {C : Array Value} {f : Nat → BitVec 32} (h : Are C n f) : ArrAt (w.alloc (.cells C t)) w.heap.size t n f := ⟨C, alloc_new _ _, h⟩
theorem ArrAt.lt {w : World} {g : Nat} {t : TypeId} {n : Nat} {f : Nat → BitVec 32} (h : ArrAt w g t n f) : g < w.heap.size := by
  obtain ⟨C, h1, _⟩ := h
  exact Only.heap_lt h1
theorem Are.one {C : Array Value} {n : Nat} {f : Nat → BitVec 32} (h : Are C n f) : C.all (·.oneCell') = true := by
  rw [Array.all_eq_true]
  intro i hi
  have := h.2 i (by rw [← h.1]; exact hi)
  rw [Array.getElem?_eq_getElem hi] at this
  rw [Option.some.inj this]; rfl
theorem only_setRow {S : Nat → Prop} {w w1 : World} (h : Only S w w1) {g : Nat} (hp : S g ∨ w.heap.size ≤ g) (C : Array Value) : Only S w (w1.setRow g C) :=
  h.trans (S' := fun k => k = g) ⟨rfl, rfl, rfl, by simp, fun i _ hn => setRow_other w1 g i C hn⟩ (fun k hk => by rw [hk]; exact hp)
theorem results_cell1 {fn : Func} {t : Tmp} {ty : TypeId} (h : fn.results = #[.cell t ty]) {tmps : Array Value} {P : Program} {w : World} {a : Addr} {v : Value} (ha : tmps.getD t undef = .pointer (some a))
    (hl : (loadVar ty a).run P w = .ok v w) : (results fn tmps).run P w = .ok v w := by
  have ha' : tmps[t]?.getD undef = .pointer (some a) := by simpa using ha
  simp [results, h, asAddr, ha', hl]
theorem ArrAt.new' {w : World} {o : Obj} (t : TypeId) {n : Nat} {C : Array Value} {f : Nat → BitVec 32} (h : Are C n f) : ArrAt ((w.alloc o).alloc (.cells C t)) (w.heap.size + 1) t n f := by
  have := ArrAt.new (w.alloc o) t h
  rwa [alloc_size] at this
end Go.Proofs.Ytoiagpebfkignaa.Walks
