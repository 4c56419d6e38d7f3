/- Plain: what stands between '/', and the library's split. No program. -/
import Derived.Lib.Split
import Derived.Lib.SplitLaws
import Derived.Lib.Join
namespace Go.Proofs.YtpghionmmlidnaaGreatDoor.Pth
open Go

abbrev Str := List UInt8
/-- What stands between '/'. -/
def partsL : Str → List Str
  | [] => [[]]
  | c :: r => if c = 47 then [] :: partsL r else match partsL r with
    | [] => [[c]]
    | p :: ps => (c :: p) :: ps
theorem partsL_ne (l : Str) : partsL l ≠ [] := by
  cases l with
  | nil => simp [partsL]
  | cons c r =>
    unfold partsL
    split
    · simp
    · split <;> simp
theorem partsL_cons {c : UInt8} {r : Str} (h : c ≠ 47) : ∃ p ps, partsL r = p :: ps ∧ partsL (c :: r) = (c :: p) :: ps := by
  cases hr : partsL r with
  | nil => exact absurd hr (partsL_ne r)
  | cons p ps => exact ⟨p, ps, rfl, by rw [partsL, if_neg h, hr]⟩
theorem partsL_slash (r : Str) : partsL (47 :: r) = [] :: partsL r := by rw [partsL, if_pos rfl]
theorem index_slash (r : Str) : Lib.index (47 :: r) [47] = 0 := by unfold Lib.index; rw [if_pos (by simp)]
theorem index_other {c : UInt8} (r : Str) (h : c ≠ 47) : Lib.index (c :: r) [47] = if Lib.index r [47] == -1 then -1 else Lib.index r [47] + 1 := by
  rw [Lib.index, if_neg (by simp; exact fun e => h e.symm)]
theorem splitK_parts : ∀ l : Str, Lib.splitK [47] 0 (Lib.count l [47]) l = partsL l
  | [] => by simp [partsL, Lib.count_one, Lib.splitK]
  | c :: r => by
    have ih := splitK_parts r
    by_cases h : c = 47
    · subst h
      rw [partsL_slash, Lib.count_cons_eq, Nat.add_comm, Lib.splitK, if_neg (by rw [index_slash]; decide), index_slash, ← ih]
      simp
    · obtain ⟨p, ps, e1, e2⟩ := partsL_cons (r := r) h
      rw [e2, Lib.count_cons_ne _ _ _ h]
      rw [e1] at ih
      cases hk : Lib.count r [47] with
      | zero =>
        rw [hk, Lib.splitK] at ih
        rw [Lib.splitK]
        rw [(List.cons.inj ih).1, (List.cons.inj ih).2]
      | succ k =>
        rw [hk, Lib.splitK] at ih
        by_cases hi : (Lib.index r [47] == -1) = true
        · have := Lib.count_miss (beq_iff_eq.1 hi)
          omega
        · rw [if_neg hi] at ih
          have hi2 : Lib.index r [47] ≠ -1 := fun e => hi (beq_iff_eq.2 e)
          have h0 := Lib.index_ge r [47]
          rw [Lib.splitK, index_other r h, if_neg hi, if_neg (by rw [beq_iff_eq]; omega)]
          obtain ⟨i, hi3⟩ : ∃ i : Nat, Lib.index r [47] = (i : Int) := ⟨(Lib.index r [47]).toNat, by omega⟩
          rw [hi3] at ih ⊢
          rw [show ((i : Int) + 1).toNat = i + 1 by omega]
          rw [show ((i : Int)).toNat = i by omega] at ih
          have ih := List.cons.inj ih
          show List.take (i + 1) (c :: r) :: Lib.splitK [47] 0 k (List.drop (i + 1 + 1) (c :: r)) = _
          rw [List.take_succ_cons, List.drop_succ_cons]
          rw [show List.take i r = p from ih.1, show Lib.splitK [47] 0 k (List.drop (i + 1) r) = ps from ih.2]
/-- A text out of its bytes. -/
def B (l : Str) : ByteArray := ⟨l.toArray⟩
theorem B_data (l : Str) : (B l).data.toList = l := by simp [B]
theorem data_B (S : ByteArray) : B S.data.toList = S := by simp [B]
theorem B_inj {a b : Str} : B a = B b ↔ a = b := ⟨fun h => by rw [← B_data a, h, B_data], fun h => by rw [h]⟩
theorem B_size (l : Str) : (B l).size = l.length := by simp [B, ByteArray.size]
theorem map_B (xs : List ByteArray) : (xs.map (·.data.toList)).map B = xs := by
  rw [List.map_map]
  have : (B ∘ fun x : ByteArray => x.data.toList) = id := by funext x; exact data_B x
  rw [this, List.map_id]
/-- The library's pieces. -/
theorem split_parts (S : ByteArray) : Lib.splitB ⟨#[47]⟩ 0 (Lib.countB S ⟨#[47]⟩) S = (partsL S.data.toList).map B := by
  have h := Lib.splitB_data ⟨#[47]⟩ 0 (Lib.countB S ⟨#[47]⟩) S
  have h2 : Lib.countB S ⟨#[47]⟩ = Lib.count S.data.toList [47] := rfl
  rw [h2] at h ⊢
  rw [show ((⟨#[47]⟩ : ByteArray).data.toList) = [47] from rfl, splitK_parts] at h
  rw [← h, map_B]
theorem split_len (S : ByteArray) : Lib.countB S ⟨#[47]⟩ + 1 = (partsL S.data.toList).length := by
  have h := Lib.splitB_all ⟨#[47]⟩ (by decide) 0 _ S rfl
  rw [split_parts, List.length_map] at h
  exact h.symm
end Go.Proofs.YtpghionmmlidnaaGreatDoor.Pth
