/- Contracts of path.Right, Split, Last, parts; cmp.Compare, slices.Compare; path.Less. -/
import Derived.Test.YtpghionmmlidnaaGreatDoorWClean
namespace Go.Proofs.YtpghionmmlidnaaGreatDoor.Walks
open Go Go.RowKit Go.Proofs.YtpghionmmlidnaaGreatDoor.Aid Go.Proofs.YtpghionmmlidnaaGreatDoor.Pth Go.Proofs.YtpghionmmlidnaaGreatDoor.OwnS Go.Proofs.YtpghionmmlidnaaGreatDoorW.PrintWords

def rightL (l : Str) : Bool := decide (cleanL l = some l)
theorem right_eq (S : ByteArray) : (cleanB S && (cleanS S).toList == S.toList) = rightL S.data.toList := by
  unfold cleanB cleanS rightL
  cases hc : cleanL S.data.toList with
  | none => simp
  | some c =>
    rw [Option.isSome_some, Bool.true_and, Option.getD_some, toList_B, Lib.toList_data, beq_decide]
    exact decide_eq_decide.mpr ⟨fun h => by rw [h], fun h => by injection h⟩
def BoolPost (b : Bool) (w : World) (x : Ending) (w' : World) : Prop := x = .returned (.bool b) ∧ Only (fun _ => False) w w'
theorem right_any (S : ByteArray) (w : World) (hs : S.size ≤ 500000) (hm : MaxLen w) : Calls Tryz.prog 53 #[.string S] w (BoolPost (rightL S.data.toList) w) := by
  have HM := Lib.hid hm
  have HR := Lib.hid (right_eq S)
  go_enter Tryz.func53, Tryz.ntmps53
  go_wp2_with fail
  refine (clean_any S w hs HM.out).mono ?_
  rintro x w1 ⟨rfl, h1⟩
  have H1 := Lib.hid h1
  clear h1
  obtain ⟨c, hc⟩ : ∃ c, cleanS S = c := ⟨_, rfl⟩
  obtain ⟨b, hb⟩ : ∃ b, cleanB S = b := ⟨_, rfl⟩
  rw [hc, hb] at HR ⊢
  clear hc hb
  cases b with
  | true =>
    obtain ⟨q, hq⟩ : ∃ q, (c.toList == S.toList) = q := ⟨_, rfl⟩
    rw [hq] at HR
    go_wp2_with fail
    go_ret
    exact ⟨by rw [← HR.out]; rfl, H1.out⟩
  | false =>
    go_wp2_with fail
    go_ret
    exact ⟨by rw [← HR.out]; rfl, H1.out⟩
def splitL (l : Str) : List Str := if rightL l then partsL l else []
def ListPost (ls : List Str) (w : World) (x : Ending) (w' : World) : Prop := ∃ A c, x = .returned (.slice A ls.length c) ∧ ls.length ≤ c ∧ RdS w' A (ls.map B) ∧ Only (fun _ => False) w w'
theorem splitL_le (l : Str) : (splitL l).length ≤ l.length + 1 := by
  unfold splitL
  split
  · have := total_parts l
    have h : ∀ xs : List Str, xs.length ≤ total xs := fun xs => by
      induction xs with
      | nil => exact Nat.zero_le _
      | cons x xs ih => rw [total_cons, List.length_cons]; omega
    have := h (partsL l)
    omega
  · exact Nat.zero_le _
theorem split_right (S : ByteArray) (w : World) (hs : S.size ≤ 500000) (hm : MaxLen w) : Calls Tryz.prog 87 #[.string S] w (ListPost (splitL S.data.toList) w) := by
  have HM := Lib.hid hm
  obtain ⟨b, hb⟩ : ∃ b, rightL S.data.toList = b := ⟨_, rfl⟩
  have HB := Lib.hid hb
  clear hb
  go_enter Tryz.func87, Tryz.ntmps87
  go_wp2_with fail
  refine (right_any S w hs HM.out).mono ?_
  rintro x w1 ⟨rfl, h1⟩
  rw [HB.out]
  have H1 := Lib.hid h1
  clear h1
  cases b with
  | true =>
    have HL := Lib.hid (show splitL S.data.toList = partsL S.data.toList by unfold splitL; rw [HB.out, if_pos rfl])
    go_wp2_with fail
    refine (split_any S w1 (by omega) (HM.out.only H1.out)).mono ?_
    rintro x w2 ⟨rfl, hw2⟩
    obtain ⟨hc2, ho2⟩ := pieces_at hw2
    have H2 := Lib.hid (H1.out.trans' ho2)
    have HC := Lib.hid (hc2 w2 (Below.refl _ _))
    clear hw2 hc2 ho2
    go_wp2_with fail
    go_ret
    refine ⟨_, _, by rw [HL.out]; rfl, by rw [HL.out]; exact Nat.le_refl _, fun h0 => ⟨_, rfl, fun j hj => ?_⟩, H2.out⟩
    rw [HL.out, List.length_map] at hj
    have := HC.out j hj
    rw [HL.out, show (⟨w1.heap.size, 0, none⟩ : Addr).add j = ⟨w1.heap.size, j, none⟩ by unfold Addr.add; split <;> simp_all, this]
    rw [List.getD_eq_getElem?_getD, List.getD_eq_getElem?_getD, List.getElem?_map, List.getElem?_eq_getElem hj]
    rfl
  | false =>
    have HL := Lib.hid (show splitL S.data.toList = [] by unfold splitL; rw [HB.out, if_neg (by decide)])
    go_wp2_with fail
    go_ret
    exact ⟨none, 0, by rw [HL.out]; rfl, by rw [HL.out]; exact Nat.le_refl _, by rw [HL.out]; exact fun h0 => absurd h0 (by simp), H1.out⟩
def lastL (l : Str) : Str := (splitL l).getLastD []
set_option maxHeartbeats 2000000 in
theorem last_any (S : ByteArray) (w : World) (hs : S.size ≤ 500000) (hm : MaxLen w) : Calls Tryz.prog 54 #[.string S] w fun e w' => e = .returned (.string (B (lastL S.data.toList))) ∧ Only (fun _ => False) w w' := by
  have HM := Lib.hid hm
  have HL := Lib.hid (splitL_le S.data.toList)
  obtain ⟨ls, hls⟩ : ∃ ls, splitL S.data.toList = ls := ⟨_, rfl⟩
  rw [hls] at HL
  have HLS := Lib.hid hls
  clear hls
  go_enter Tryz.func54, Tryz.ntmps54
  go_wp2_with fail
  refine (split_right S w hs HM.out).mono ?_
  rintro x w1 ⟨A, c, rfl, hc, hR, h1⟩
  rw [HLS.out] at hc hR ⊢
  have H1 := Lib.hid h1
  have HR := Lib.hid hR
  clear h1 hR
  by_cases h0 : ls.length = 0
  · have e1 : ((ls.length : Int) == 0) = true := beq_iff_eq.mpr (by omega)
    have HE := Lib.hid (show lastL S.data.toList = [] by unfold lastL; rw [HLS.out, List.eq_nil_of_length_eq_zero h0]; rfl)
    go_wp2_with fail
    go_ret
    exact ⟨by rw [HE.out]; rfl, H1.out⟩
  · have e1 : ((ls.length : Int) == 0) = false := beq_eq_false_iff_ne.mpr (by omega)
    obtain ⟨ad, rfl, hcell⟩ := HR.out (by rw [List.length_map]; omega)
    obtain ⟨n, hn⟩ : ∃ n, ls.length = n + 1 := ⟨ls.length - 1, by omega⟩
    have c0 := hcell n (by rw [List.length_map]; omega)
    have HE := Lib.hid (show B (lastL S.data.toList) = (ls.map B).getD n ⟨#[]⟩ by
      unfold lastL
      rw [HLS.out, List.getLastD_eq_getLast?, List.getLast?_eq_getElem?, hn, Nat.add_sub_cancel, List.getD_eq_getElem?_getD, List.getElem?_map, List.getElem?_eq_getElem (by omega)]
      rfl)
    obtain ⟨P, hP⟩ : ∃ P, (ls.map B).getD n ⟨#[]⟩ = P := ⟨_, rfl⟩
    rw [hP] at c0 HE
    have b1 : (n : Int) ≤ 500001 := by have := HL.out; have e : S.data.toList.length = S.size := rfl; omega
    rw [hn] at hc e1 ⊢
    clear hcell hP
    go_wp2_with fail
    go_ret
    exact ⟨by rw [HE.out]; rfl, H1.out⟩
end Go.Proofs.YtpghionmmlidnaaGreatDoor.Walks
