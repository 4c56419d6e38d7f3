/- Contracts of the reference's Right, Split, Last, Less; of the law's texts. -/
import Derived.Test.YtpghionmmlidnaaGreatDoorRClean
namespace Go.Proofs.YtpghionmmlidnaaGreatDoor.Walks
open Go Go.RowKit Go.Proofs.YtpghionmmlidnaaGreatDoor.Aid Go.Proofs.YtpghionmmlidnaaGreatDoor.Pth Go.Proofs.YtpghionmmlidnaaGreatDoor.OwnS Go.Proofs.YtpghionmmlidnaaGreatDoorW.PrintWords

theorem rright_any (S : ByteArray) (w : World) (hs : S.size ≤ 500000) : Calls Tryz.prog 43 #[.string S] w (BoolPost (rightL S.data.toList) w) := by
  have HR := Lib.hid (right_eq S)
  go_enter Tryz.func43, Tryz.ntmps43
  go_wp2_with fail
  refine (rclean_any S w hs).mono ?_
  rintro x w1 ⟨rfl, h1⟩
  have H1 := Lib.hid h1
  clear h1
  obtain ⟨c, hc⟩ : ∃ c, cleanS S = c := ⟨_, rfl⟩
  obtain ⟨b, hb⟩ : ∃ b, cleanB S = b := ⟨_, rfl⟩
  rw [hc, hb] at HR ⊢
  clear hc hb
  cases b with
  | true =>
    obtain ⟨q, hq⟩ : ∃ q, (c.toList == S.toList) = q := ⟨_, rfl⟩
    rw [hq] at HR
    go_wp2_with fail
    go_ret
    exact ⟨by rw [← HR.out]; rfl, H1.out⟩
  | false =>
    go_wp2_with fail
    go_ret
    exact ⟨by rw [← HR.out]; rfl, H1.out⟩
theorem rsplit_right (S : ByteArray) (w : World) (hs : S.size ≤ 500000) : Calls Tryz.prog 82 #[.string S] w (ListPost (splitL S.data.toList) w) := by
  obtain ⟨b, hb⟩ : ∃ b, rightL S.data.toList = b := ⟨_, rfl⟩
  have HB := Lib.hid hb
  clear hb
  go_enter Tryz.func82, Tryz.ntmps82
  go_wp2_with fail
  refine (rright_any S w hs).mono ?_
  rintro x w1 ⟨rfl, h1⟩
  rw [HB.out]
  have H1 := Lib.hid h1
  clear h1
  cases b with
  | true =>
    have HL := Lib.hid (show splitL S.data.toList = partsL S.data.toList by unfold splitL; rw [HB.out, if_pos rfl])
    go_wp2_with fail
    refine (rparts_any S w1 hs).mono ?_
    rintro x w2 ⟨A, c, rfl, hc, hR, ho2⟩
    have H2 := Lib.hid (H1.out.trans' ho2)
    have HR := Lib.hid hR
    have HC := Lib.hid hc
    clear ho2 hR hc
    go_wp2_with fail
    go_ret
    exact ⟨A, c, by rw [HL.out]; rfl, by rw [HL.out]; exact HC.out, by rw [HL.out]; exact HR.out, H2.out⟩
  | false =>
    have HL := Lib.hid (show splitL S.data.toList = [] by unfold splitL; rw [HB.out, if_neg (by decide)])
    go_wp2_with fail
    go_ret
    exact ⟨none, 0, by rw [HL.out]; rfl, by rw [HL.out]; exact Nat.le_refl _, by rw [HL.out]; exact fun h0 => absurd h0 (by simp), H1.out⟩
set_option maxHeartbeats 2000000 in
theorem rlast_any (S : ByteArray) (w : World) (hs : S.size ≤ 500000) : Calls Tryz.prog 44 #[.string S] w fun e w' => e = .returned (.string (B (lastL S.data.toList))) ∧ Only (fun _ => False) w w' := by
  have HL := Lib.hid (splitL_le S.data.toList)
  obtain ⟨ls, hls⟩ : ∃ ls, splitL S.data.toList = ls := ⟨_, rfl⟩
  rw [hls] at HL
  have HLS := Lib.hid hls
  clear hls
  go_enter Tryz.func44, Tryz.ntmps44
  go_wp2_with fail
  refine (rsplit_right S w hs).mono ?_
  rintro x w1 ⟨A, c, rfl, hc, hR, h1⟩
  rw [HLS.out] at hc hR ⊢
  have H1 := Lib.hid h1
  have HR := Lib.hid hR
  clear h1 hR
  by_cases h0 : ls.length = 0
  · have e1 : ((ls.length : Int) == 0) = true := beq_iff_eq.mpr (by omega)
    have HE := Lib.hid (show lastL S.data.toList = [] by unfold lastL; rw [HLS.out, List.eq_nil_of_length_eq_zero h0]; rfl)
    go_wp2_with fail
    go_ret
    exact ⟨by rw [HE.out]; rfl, H1.out⟩
  · have e1 : ((ls.length : Int) == 0) = false := beq_eq_false_iff_ne.mpr (by omega)
    obtain ⟨ad, rfl, hcell⟩ := HR.out (by rw [List.length_map]; omega)
    obtain ⟨n, hn⟩ : ∃ n, ls.length = n + 1 := ⟨ls.length - 1, by omega⟩
    have c0 := hcell n (by rw [List.length_map]; omega)
    have HE := Lib.hid (show B (lastL S.data.toList) = (ls.map B).getD n ⟨#[]⟩ by
      unfold lastL
      rw [HLS.out, List.getLastD_eq_getLast?, List.getLast?_eq_getElem?, hn, Nat.add_sub_cancel, List.getD_eq_getElem?_getD, List.getElem?_map, List.getElem?_eq_getElem (by omega)]
      rfl)
    obtain ⟨P, hP⟩ : ∃ P, (ls.map B).getD n ⟨#[]⟩ = P := ⟨_, rfl⟩
    rw [hP] at c0 HE
    have b1 : (n : Int) ≤ 500001 := by have := HL.out; have e : S.data.toList.length = S.size := rfl; omega
    rw [hn] at hc e1 ⊢
    clear hcell hP
    go_wp2_with fail
    go_ret
    exact ⟨by rw [HE.out]; rfl, H1.out⟩
end Go.Proofs.YtpghionmmlidnaaGreatDoor.Walks
