/- Slices of bytes that read as texts (over path's texts). -/
import Derived.Test.YtpghionmmlidnaaGreatDoorOwnB
import Derived.Test.YtpghionmmlidnaaGreatDoorWPath
namespace Go.Proofs.YtpghionmmlidnaaGreatDoor.Walks
open Go Go.RowKit Go.Proofs.YtpghionmmlidnaaGreatDoor.Aid Go.Proofs.YtpghionmmlidnaaGreatDoor.Pth Go.Proofs.YtpghionmmlidnaaGreatDoor.Own Go.Proofs.YtpghionmmlidnaaGreatDoorW.PrintWords

theorem index_at {S : ByteArray} {i : Nat} (hi : i < S.size) : ∀ h : i < S.size, ((S[i]'h).toNat : Int) = ((S.data.toList.getD i 0).toNat : Int) := fun h => by
  have e : S.data.toList.getD i 0 = S.data.toList[i]'hi := by rw [List.getD_eq_getElem?_getD, List.getElem?_eq_getElem hi]; rfl
  rw [e]; rfl
theorem byte_eq {x y : UInt8} (n : Int) (h : (y.toNat : Int) = n) : ((x.toNat : Int) == n) = decide (x = y) := by
  subst h
  by_cases e : x = y
  · rw [decide_eq_true e, e]; exact beq_self_eq_true _
  · rw [decide_eq_false e]; exact beq_eq_false_iff_ne.mpr (fun h => e (UInt8.toNat.inj (by exact_mod_cast h)))
/-- The bytes as numbers. -/
def ints (l : Str) : List Int := l.map fun x => (x.toNat : Int)
theorem ints_len (l : Str) : (ints l).length = l.length := by simp [ints]
theorem ints_get {l : Str} {j : Nat} (h : j < l.length) : (ints l).getD j 0 = ((l.getD j 0).toNat : Int) := by
  unfold ints
  rw [List.getD_eq_getElem?_getD, List.getD_eq_getElem?_getD, List.getElem?_map, List.getElem?_eq_getElem h]; rfl
theorem ints_str (l : Str) : strOfNums (ints l) = B l := by
  apply ByteArray.ext
  apply Array.ext'
  rw [strOfNums_data]
  unfold ints B
  rw [List.map_map]
  have : ((fun n : Int => UInt8.ofNat n.toNat) ∘ fun x : UInt8 => (x.toNat : Int)) = id := by
    funext x; simp
  rw [this, List.map_id]
theorem bytes_ints (t : Str) : ∀ x ∈ ints t, 0 ≤ x ∧ x < 256 := fun x hx => by
  obtain ⟨y, _, rfl⟩ := List.mem_map.1 hx
  have := y.toNat_lt
  omega
theorem bytes_str {m : List Int} (h : ∀ x ∈ m, 0 ≤ x ∧ x < 256) : ∃ l : Str, ints l = m := by
  refine ⟨m.map (fun x => UInt8.ofNat x.toNat), ?_⟩
  unfold ints
  rw [List.map_map]
  conv => rhs; rw [← List.map_id m]
  refine List.map_congr_left (fun x hx => ?_)
  have := h x hx
  show ((UInt8.ofNat x.toNat).toNat : Int) = x
  rw [UInt8.toNat_ofNat']; omega
/-- A slice of bytes reads as a text. -/
def RdU (w : World) (A : Option Addr) (l : Str) : Prop := RdK .u8 w A (ints l)
theorem RdU.only {w u : World} {A : Option Addr} {l : Str} (h : RdU w A l) (ho : Only (fun _ => False) w u) : RdU u A l := rd_only h ho
theorem RdU.below {w u : World} {A : Option Addr} {l : Str} (h : RdU w A l) (ho : Below w.heap.size w u) : RdU u A l := RdK.below h ho
theorem RdU.cells {w : World} {A : Option Addr} {l : Str} (h : RdU w A l) (h0 : 0 < l.length) : ∃ ad, A = some ad ∧ ∀ j, j < l.length → w.cell? (ad.add j) = some (.int .u8 ((l.getD j 0).toNat : Int)) := by
  obtain ⟨ad, e, hc⟩ := h (by rw [ints_len]; exact h0)
  refine ⟨ad, e, fun j hj => ?_⟩
  rw [hc j (by rw [ints_len]; exact hj), ints_get hj]
theorem RdU.nil (w : World) (A : Option Addr) : RdU w A [] := fun h => absurd h (Nat.lt_irrefl 0)
theorem RdU.of_cells {w : World} {ad : Addr} {l : Str} (h : ∀ j, j < l.length → w.cell? (ad.add j) = some (.int .u8 ((l.getD j 0).toNat : Int))) : RdU w (some ad) l := fun h0 =>
  ⟨ad, rfl, fun j hj => by
    rw [ints_len] at hj
    rw [h j hj, ints_get hj]⟩
theorem RdU.block {w w' : World} {A : Option Addr} {l : Str} {g : Nat} (h : RdU w A l) (ho : Only (fun k => k = g) w w') (hg : w.heap.size ≤ g) : RdU w' A l := h.below (ho.below (Nat.le_refl _) (fun k hk => by rw [hk]; exact hg))
theorem str_u {w : World} {A : Option Addr} {l : Str} {n : Nat} (c : Nat) (h : RdU w A l) (hn : l.length = n) : (convert 26 9 (.slice A n c)).run Tryz.prog w = .ok (.string (B l)) w := by
  subst hn
  have := str_rd c h
  rw [ints_len, ints_str] at this
  exact this
end Go.Proofs.YtpghionmmlidnaaGreatDoor.Walks
