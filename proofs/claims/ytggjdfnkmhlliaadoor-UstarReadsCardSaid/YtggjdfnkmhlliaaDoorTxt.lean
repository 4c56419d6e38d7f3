/- Texts as lists of bytes; slices of bytes that read so. -/
import Derived.Test.YtggjdfnkmhlliaaDoorOwnB
import Derived.Test.YtggjdfnkmhlliaaDoorConvB
import Derived.Test.YtggjdfnkmhlliaaDoorShelf
import Derived.WalkKit
import Derived.KernelRfl
import Derived.WalkLawsBesides
import Derived.WalkSpells
import Derived.Deep.QuietTactic
import Derived.BigQuiet
import Derived.BigRegion
import Derived.Deep.Draws
import Derived.Deep.LoopGhost
import Derived.Deep.CutRange
import Derived.Deep.DeepCutAuto
import Derived.Lib.Hide
import Derived.Outline
import Derived.Lib.Strings
namespace Go.Proofs.YtggjdfnkmhlliaaDoor.Walks
open Go Go.RowKit Go.Proofs.YtggjdfnkmhlliaaDoor.Aid Go.Proofs.YtggjdfnkmhlliaaDoor.Own Go.Proofs.YtggjdfnkmhlliaaDoorW.PrintWords

abbrev Str := List UInt8
def B (l : Str) : ByteArray := ⟨l.toArray⟩
theorem B_data (l : Str) : (B l).data.toList = l := by simp [B]
theorem data_B (S : ByteArray) : B S.data.toList = S := by simp [B]
theorem B_inj {a b : Str} : B a = B b ↔ a = b := ⟨fun h => by rw [← B_data a, h, B_data], fun h => by rw [h]⟩
theorem B_size (l : Str) : (B l).size = l.length := by simp [B, ByteArray.size]
theorem toList_B (l : Str) : (B l).toList = l := by rw [Lib.toList_data, B_data]
theorem isEmpty_B (l : Str) : (B l).toList.isEmpty = decide (l = []) := by rw [toList_B]; cases l <;> rfl
theorem beq_decide (a b : Str) : (a == b) = decide (a = b) := by
  by_cases h : a = b
  · rw [decide_eq_true h]; exact beq_iff_eq.mpr h
  · rw [decide_eq_false h]; exact beq_eq_false_iff_ne.mpr h
theorem concat_B (S T : ByteArray) : S ++ T = B (S.data.toList ++ T.data.toList) := by
  have h : (S ++ T).data.toList = S.data.toList ++ T.data.toList := by rw [ByteArray.data_append, Array.toList_append]
  rw [← h, data_B]
theorem extract_B (S : ByteArray) (a b : Nat) : S.extract a b = B ((S.data.toList.drop a).take (b - a)) := by
  have h : (S.extract a b).data.toList = (S.data.toList.drop a).take (b - a) := by rw [Lib.extract_data]
  rw [← h, data_B]
theorem index_at {S : ByteArray} {i : Nat} (hi : i < S.size) : ∀ h : i < S.size, ((S[i]'h).toNat : Int) = ((S.data.toList.getD i 0).toNat : Int) := fun h => by
  have e : S.data.toList.getD i 0 = S.data.toList[i]'hi := by rw [List.getD_eq_getElem?_getD, List.getElem?_eq_getElem hi]; rfl
  rw [e]; rfl
theorem byte_eq {x y : UInt8} (n : Int) (h : (y.toNat : Int) = n) : ((x.toNat : Int) == n) = decide (x = y) := by
  subst h
  by_cases e : x = y
  · rw [decide_eq_true e, e]; exact beq_self_eq_true _
  · rw [decide_eq_false e]; exact beq_eq_false_iff_ne.mpr (fun h => e (UInt8.toNat.inj (by exact_mod_cast h)))
theorem drop_at {α : Type} {l : List α} {i : Nat} {d : α} (h : i < l.length) : l.drop i = l.getD i d :: l.drop (i + 1) := by
  rw [List.getD_eq_getElem?_getD, List.getElem?_eq_getElem h]
  exact List.drop_eq_getElem_cons h
theorem take_snoc {α : Type} {l : List α} {i : Nat} {d x : α} (h : i < l.length) (hx : l.getD i d = x) : l.take (i + 1) = l.take i ++ [x] := by
  rw [List.take_add_one, List.getElem?_eq_getElem h]
  rw [List.getD_eq_getElem?_getD, List.getElem?_eq_getElem h] at hx
  rw [← hx]; rfl
/-- The bytes as numbers. -/
def ints (l : Str) : List Int := l.map fun x => (x.toNat : Int)
theorem ints_len (l : Str) : (ints l).length = l.length := by simp [ints]
theorem ints_get {l : Str} {j : Nat} (h : j < l.length) : (ints l).getD j 0 = ((l.getD j 0).toNat : Int) := by
  unfold ints
  rw [List.getD_eq_getElem?_getD, List.getD_eq_getElem?_getD, List.getElem?_map, List.getElem?_eq_getElem h]; rfl
theorem ints_str (l : Str) : strOfNums (ints l) = B l := by
  apply ByteArray.ext
  apply Array.ext'
  rw [strOfNums_data]
  unfold ints B
  rw [List.map_map]
  have : ((fun n : Int => UInt8.ofNat n.toNat) ∘ fun x : UInt8 => (x.toNat : Int)) = id := by
    funext x; simp
  rw [this, List.map_id]
/-- A slice of bytes reads as a text. -/
def RdU (w : World) (A : Option Addr) (l : Str) : Prop := RdK .u8 w A (ints l)
theorem RdU.only {w u : World} {A : Option Addr} {l : Str} (h : RdU w A l) (ho : Only (fun _ => False) w u) : RdU u A l := rd_only h ho
theorem RdU.below {w u : World} {A : Option Addr} {l : Str} (h : RdU w A l) (ho : Below w.heap.size w u) : RdU u A l := RdK.below h ho
theorem RdU.cells {w : World} {A : Option Addr} {l : Str} (h : RdU w A l) (h0 : 0 < l.length) : ∃ ad, A = some ad ∧ ∀ j, j < l.length → w.cell? (ad.add j) = some (.int .u8 ((l.getD j 0).toNat : Int)) := by
  obtain ⟨ad, e, hc⟩ := h (by rw [ints_len]; exact h0)
  refine ⟨ad, e, fun j hj => ?_⟩
  rw [hc j (by rw [ints_len]; exact hj), ints_get hj]
theorem str_u {w : World} {A : Option Addr} {l : Str} {n : Nat} (c : Nat) (h : RdU w A l) (hn : l.length = n) : (convert 22 9 (.slice A n c)).run Tryd.prog w = .ok (.string (B l)) w := by
  subst hn
  have := str_rd c h
  rw [ints_len, ints_str] at this
  exact this
/-- internal/bytealg.MaxLen holds some number. -/
def MaxLen (w : World) : Prop := ∃ m, w.cell? ⟨0, 0, none⟩ = some (.int .i64 m)
theorem MaxLen.only {w u : World} (h : MaxLen w) (ho : Only (fun _ => False) w u) : MaxLen u := by
  obtain ⟨m, hm⟩ := h
  exact ⟨m, ho.cell hm id⟩
theorem MaxLen.below {w u : World} (h : MaxLen w) (ho : Below w.heap.size w u) : MaxLen u := by
  obtain ⟨m, hm⟩ := h
  exact ⟨m, (ho.cell (World.block_lt_of_cell? w _ hm)).trans hm⟩
def BoolPost (b : Bool) (w : World) (x : Ending) (w' : World) : Prop := x = .returned (.bool b) ∧ Only (fun _ => False) w w'
end Go.Proofs.YtggjdfnkmhlliaaDoor.Walks
