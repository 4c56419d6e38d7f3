/- Contracts of path.Right, Split, Last, parts; cmp.Compare, slices.Compare; path.Less. -/
import Derived.Test.YtihcdecdkpbpmaaDoorWClean
namespace Go.Proofs.YtihcdecdkpbpmaaDoor.Walks
open Go Go.RowKit Go.Proofs.YtihcdecdkpbpmaaDoor.Aid Go.Proofs.YtihcdecdkpbpmaaDoor.Pth Go.Proofs.YtihcdecdkpbpmaaDoor.OwnS Go.Proofs.YtihcdecdkpbpmaaDoorW.PrintWords

def rightL (l : Str) : Bool := decide (cleanL l = some l)
theorem right_eq (S : ByteArray) : (cleanB S && (cleanS S).toList == S.toList) = rightL S.data.toList := by
  unfold cleanB cleanS rightL
  cases hc : cleanL S.data.toList with
  | none => simp
  | some c =>
    rw [Option.isSome_some, Bool.true_and, Option.getD_some, toList_B, Lib.toList_data, beq_decide]
    exact decide_eq_decide.mpr ⟨fun h => by rw [h], fun h => by injection h⟩
def BoolPost (b : Bool) (w : World) (x : Ending) (w' : World) : Prop := x = .returned (.bool b) ∧ Only (fun _ => False) w w'
theorem right_any (S : ByteArray) (w : World) (hs : S.size ≤ 500000) (hm : MaxLen w) : Calls Tryd.prog 33 #[.string S] w (BoolPost (rightL S.data.toList) w) := by
  have HM := Lib.hid hm
  have HR := Lib.hid (right_eq S)
  go_enter Tryd.func33, Tryd.ntmps33
  go_wp2_with fail
  refine (clean_any S w hs HM.out).mono ?_
  rintro x w1 ⟨rfl, h1⟩
  have H1 := Lib.hid h1
  clear h1
  obtain ⟨c, hc⟩ : ∃ c, cleanS S = c := ⟨_, rfl⟩
  obtain ⟨b, hb⟩ : ∃ b, cleanB S = b := ⟨_, rfl⟩
  rw [hc, hb] at HR ⊢
  clear hc hb
  cases b with
  | true =>
    obtain ⟨q, hq⟩ : ∃ q, (c.toList == S.toList) = q := ⟨_, rfl⟩
    rw [hq] at HR
    go_wp2_with fail
    go_ret
    exact ⟨by rw [← HR.out]; rfl, H1.out⟩
  | false =>
    go_wp2_with fail
    go_ret
    exact ⟨by rw [← HR.out]; rfl, H1.out⟩
def splitL (l : Str) : List Str := if rightL l then partsL l else []
def ListPost (ls : List Str) (w : World) (x : Ending) (w' : World) : Prop := ∃ A c, x = .returned (.slice A ls.length c) ∧ ls.length ≤ c ∧ RdS w' A (ls.map B) ∧ Only (fun _ => False) w w'
theorem splitL_le (l : Str) : (splitL l).length ≤ l.length + 1 := by
  unfold splitL
  split
  · have := total_parts l
    have h : ∀ xs : List Str, xs.length ≤ total xs := fun xs => by
      induction xs with
      | nil => exact Nat.zero_le _
      | cons x xs ih => rw [total_cons, List.length_cons]; omega
    have := h (partsL l)
    omega
  · exact Nat.zero_le _
theorem split_right (S : ByteArray) (w : World) (hs : S.size ≤ 500000) (hm : MaxLen w) : Calls Tryd.prog 27 #[.string S] w (ListPost (splitL S.data.toList) w) := by
  have HM := Lib.hid hm
  obtain ⟨b, hb⟩ : ∃ b, rightL S.data.toList = b := ⟨_, rfl⟩
  have HB := Lib.hid hb
  clear hb
  go_enter Tryd.func27, Tryd.ntmps27
  go_wp2_with fail
  refine (right_any S w hs HM.out).mono ?_
  rintro x w1 ⟨rfl, h1⟩
  rw [HB.out]
  have H1 := Lib.hid h1
  clear h1
  cases b with
  | true =>
    have HL := Lib.hid (show splitL S.data.toList = partsL S.data.toList by unfold splitL; rw [HB.out, if_pos rfl])
    go_wp2_with fail
    refine (split_any S w1 (by omega) (HM.out.only H1.out)).mono ?_
    rintro x w2 ⟨rfl, hw2⟩
    obtain ⟨hc2, ho2⟩ := pieces_at hw2
    have H2 := Lib.hid (H1.out.trans' ho2)
    have HC := Lib.hid (hc2 w2 (Below.refl _ _))
    clear hw2 hc2 ho2
    go_wp2_with fail
    go_ret
    refine ⟨_, _, by rw [HL.out]; rfl, by rw [HL.out]; exact Nat.le_refl _, fun h0 => ⟨_, rfl, fun j hj => ?_⟩, H2.out⟩
    rw [HL.out, List.length_map] at hj
    have := HC.out j hj
    rw [HL.out, show (⟨w1.heap.size, 0, none⟩ : Addr).add j = ⟨w1.heap.size, j, none⟩ by unfold Addr.add; split <;> simp_all, this]
    rw [List.getD_eq_getElem?_getD, List.getD_eq_getElem?_getD, List.getElem?_map, List.getElem?_eq_getElem hj]
    rfl
  | false =>
    have HL := Lib.hid (show splitL S.data.toList = [] by unfold splitL; rw [HB.out, if_neg (by decide)])
    go_wp2_with fail
    go_ret
    exact ⟨none, 0, by rw [HL.out]; rfl, by rw [HL.out]; exact Nat.le_refl _, by rw [HL.out]; exact fun h0 => absurd h0 (by simp), H1.out⟩
def lastL (l : Str) : Str := (splitL l).getLastD []
end Go.Proofs.YtihcdecdkpbpmaaDoor.Walks
