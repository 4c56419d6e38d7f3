/- Contract of path.Clean: what it computes. -/
import Derived.Test.YtpghionmmlidnaaGreatDoorParts
namespace Go.Proofs.YtpghionmmlidnaaGreatDoor.Pth
open Go

def Keep (p : Str) : Bool := decide (p ≠ [] ∧ p ≠ [46])
def keepL (l : Str) : List Str := (partsL l).filter Keep
def joinL (xs : List Str) : Str := Lib.join xs [47]
def Bad (l : Str) : Bool := decide (l = [] ∨ l.head? = some 47 ∨ (0 : UInt8) ∈ l)
/-- path.Clean: none where it says no. -/
def cleanL (l : Str) : Option Str :=
  if Bad l then none else if ([46, 46] : Str) ∈ partsL l then none else if joinL (keepL l) = [] ∨ 4096 < (joinL (keepL l)).length then none else some (joinL (keepL l))
def total (xs : List Str) : Nat := (xs.map fun p => p.length + 1).sum
theorem total_cons (x : Str) (xs : List Str) : total (x :: xs) = x.length + 1 + total xs := by unfold total; rw [List.map_cons, List.sum_cons]
theorem total_parts : ∀ l : Str, total (partsL l) = l.length + 1
  | [] => rfl
  | c :: r => by
    have ih := total_parts r
    by_cases h : c = 47
    · subst h
      rw [partsL_slash, total_cons, ih]
      simp; omega
    · obtain ⟨p, ps, e1, e2⟩ := partsL_cons (r := r) h
      rw [e2, total_cons]
      rw [e1, total_cons] at ih
      simp; omega
theorem total_filter (f : Str → Bool) (xs : List Str) : total (xs.filter f) ≤ total xs := by
  induction xs with
  | nil => exact Nat.le_refl _
  | cons x xs ih =>
    rw [List.filter_cons]
    split
    · rw [total_cons, total_cons]; omega
    · rw [total_cons]; omega
theorem tail_len (xs : List Str) : (Lib.joinTail [47] xs).length = total xs := by
  induction xs with
  | nil => rfl
  | cons x xs ih =>
    have : Lib.joinTail [47] (x :: xs) = ([47] ++ x) ++ Lib.joinTail [47] xs := by simp [Lib.joinTail]
    rw [this, List.length_append, ih, total_cons]
    simp
theorem join_len (x : Str) (xs : List Str) : (joinL (x :: xs)).length + 1 = total (x :: xs) := by
  unfold joinL
  rw [Lib.join_cons, List.length_append, tail_len, total_cons]
  omega
theorem join_le (xs : List Str) : (joinL xs).length ≤ total xs := by
  cases xs with
  | nil => exact Nat.zero_le _
  | cons x xs => have := join_len x xs; omega
theorem keep_len (l : Str) : (joinL (keepL l)).length ≤ l.length := by
  unfold keepL
  have h1 := total_filter Keep (partsL l)
  rw [total_parts] at h1
  cases hk : (partsL l).filter Keep with
  | nil => exact Nat.zero_le _
  | cons x xs =>
    rw [hk] at h1
    have := join_len x xs
    omega
end Go.Proofs.YtpghionmmlidnaaGreatDoor.Pth
