/- Entries: by value, in a variable, in slices. -/
import Derived.Test.YtpghionmmlidnaaGreatDoorBts
import Derived.Deep.MidRow
import Derived.Deep.WholeRow
namespace Go.Proofs.YtpghionmmlidnaaGreatDoor.Walks
open Go Go.RowKit Go.Proofs.YtpghionmmlidnaaGreatDoor.Aid Go.Proofs.YtpghionmmlidnaaGreatDoor.Pth Go.Proofs.YtpghionmmlidnaaGreatDoor.Own Go.Proofs.YtpghionmmlidnaaGreatDoorW.PrintWords

/-- An entry; its time is a float's bits. -/
structure Ent where
  path : Str
  kind : Int
  mode : Int
  uid : Int
  gid : Int
  time : Nat
  target : Str
  data : Str
deriving DecidableEq
/-- An entry's cells, its data at A (capacity c). -/
def erow (E : Ent) (A : Option Addr) (c : Nat) : Array Value := #[.string (B E.path), .int .i64 E.kind, .int .i64 E.mode, .int .i64 E.uid, .int .i64 E.gid, .float .f64 E.time, .string (B E.target), .slice A E.data.length c]
def eval (E : Ent) (A : Option Addr) (c : Nat) : Value := .agg (erow E A c)
theorem erow_one (E : Ent) (A : Option Addr) (c : Nat) : (erow E A c).all (·.oneCell') = true := by simp [erow, Value.oneCell']
theorem infoE : (Tryz.prog.info? 47).map (·.size) = some 8 := by kernel_rfl
theorem rowE : ∃ fs, Tryz.prog.underlying 47 = some (.struct fs) := ⟨_, Tryz.underlying47⟩
theorem loadE {w : World} {g : Nat} {E : Ent} {A : Option Addr} {c : Nat} (h : w.heap[g]? = some (.cells (erow E A c) 47 (0, 0))) : (loadVar 47 ⟨g, 0, none⟩).run Tryz.prog w = .ok (eval E A c) w := by
  obtain ⟨fs, hf⟩ := rowE
  exact run_loadVar_row (P := Tryz.prog) w g 47 47 (erow E A c) (0, 0) _ h hf rfl infoE
section
variable {ops : Array Oper} {rest : List Oper} {o : Oper} {a : Act} {Q : Exit → Act → World → Prop}
theorem gate_store {w : World} (n : Nat) {x y : Operand} (_ho : o.op = .store n x y) (h : wpList Tryz.prog ops Q (o :: rest) a w) : wpList Tryz.prog ops Q (o :: rest) a w := h
/-- An entry is stored whole. -/
theorem store_ent {W : World} (hgd : o.guard = none) {g : Nat} {cs0 : Array Value} (h0 : cs0.size = 8) (E : Ent) (A : Option Addr) (c : Nat) (x y : Operand) (ho : o.op = .store 47 x y) (hx : a.eval x = .pointer (some ⟨g, 0, none⟩)) (hy : a.eval y = eval E A c) (hb : W.heap[g]? = some (.cells cs0 47 (0, 0)))
    (h : ∀ w1, w1.heap[g]? = some (.cells (erow E A c) 47 (0, 0)) → Only (fun k => k = g) W w1 → wpList Tryz.prog ops Q rest (a.put o.dst undef) w1) : wpList Tryz.prog ops Q (o :: rest) a W := by
  refine wpList_store_row hgd 47 x y ho g (erow E A c) hx hy 47 cs0 hb infoE (by rw [h0]; rfl) (erow_one E A c) (h _ (setRow_heap W g cs0 (erow E A c) 47 _ hb) ?_)
  exact ⟨rfl, rfl, rfl, by simp, fun i _ hn => setRow_other W g i (erow E A c) hn⟩
theorem load_ent {W : World} (hgd : o.guard = none) {g : Nat} {E : Ent} {A : Option Addr} {c : Nat} (x : Operand) (ho : o.op = .load 47 x) (hx : a.eval x = .pointer (some ⟨g, 0, none⟩)) (hb : W.heap[g]? = some (.cells (erow E A c) 47 (0, 0))) (h : wpList Tryz.prog ops Q rest (a.put o.dst (eval E A c)) W) : wpList Tryz.prog ops Q (o :: rest) a W :=
  wpList_load_row hgd 47 x ho g hx 47 (erow E A c) (0, 0) _ hb Tryz.underlying47 rfl infoE h
/-- An entry is stored whole into the block that was just made. -/
theorem store_newE {W : World} (hgd : o.guard = none) {cs0 : Array Value} (h0 : cs0.size = 8) (E : Ent) (A : Option Addr) (c : Nat) (x y : Operand) (ho : o.op = .store 47 x y) (hx : a.eval x = .pointer (some ⟨W.heap.size, 0, none⟩)) (hy : a.eval y = eval E A c)
    (h : ∀ w1, w1.heap[W.heap.size]? = some (.cells (erow E A c) 47 (0, 0)) → Only (fun _ => False) W w1 → wpList Tryz.prog ops Q rest (a.put o.dst undef) w1) : wpList Tryz.prog ops Q (o :: rest) a (W.alloc (.cells cs0 47)) :=
  store_ent hgd h0 E A c x y ho hx hy (alloc_new W _) fun w1 h1 h2 => h w1 h1 (((Only.refl (fun _ => False) W).alloc _).trans h2 (fun k hk => Or.inr (by rw [hk]; exact Nat.le_refl _)))
end
/-- An entry's data reads so. -/
def EntAt (w : World) (E : Ent) (A : Option Addr) (c : Nat) : Prop := RdU w A E.data ∧ E.data.length ≤ c
theorem EntAt.only {w u : World} {E : Ent} {A : Option Addr} {c : Nat} (h : EntAt w E A c) (ho : Only (fun _ => False) w u) : EntAt u E A c := ⟨h.1.only ho, h.2⟩
/-- A slice of entries reads as a list; where each one's data lies is told by M. -/
def RdE (w : World) (A : Option Addr) (l : List Ent) (M : Nat → Option Addr × Nat) : Prop :=
  ∀ i E, l[i]? = some E → EntAt w E (M i).1 (M i).2 ∧ ∃ ad, A = some ad ∧ ∀ j v, (erow E (M i).1 (M i).2)[j]? = some v → w.cell? (ad.add (i * 8 + j)) = some v
theorem RdE.only {w u : World} {A : Option Addr} {l : List Ent} {M : Nat → Option Addr × Nat} (h : RdE w A l M) (ho : Only (fun _ => False) w u) : RdE u A l M := fun i E hE => by
  obtain ⟨h1, ad, h2, h3⟩ := h i E hE
  exact ⟨h1.only ho, ad, h2, fun j v hv => ho.cell (h3 j v hv) id⟩
theorem RdE.nil (w : World) (A : Option Addr) (M : Nat → Option Addr × Nat) : RdE w A [] M := fun i E h => by simp at h
theorem lvF (a : Addr) (w : World) : (loadVar 38 a).run Tryz.prog w = (load a).run Tryz.prog w := by
  go_simp
theorem lv9 (a : Addr) (w : World) : (loadVar 9 a).run Tryz.prog w = (load a).run Tryz.prog w := by
  go_simp
theorem lv3 (a : Addr) (w : World) : (loadVar 3 a).run Tryz.prog w = (load a).run Tryz.prog w := by
  go_simp
theorem lvB (a : Addr) (w : World) : (loadVar 26 a).run Tryz.prog w = (load a).run Tryz.prog w := by
  go_simp
end Go.Proofs.YtpghionmmlidnaaGreatDoor.Walks
