/- Contracts of the reference's Right, Split, Last, Less; of the law's texts. -/
import Derived.Test.YtihcdecdkpbpmaaDoorRClean
namespace Go.Proofs.YtihcdecdkpbpmaaDoor.Walks
open Go Go.RowKit Go.Proofs.YtihcdecdkpbpmaaDoor.Aid Go.Proofs.YtihcdecdkpbpmaaDoor.Pth Go.Proofs.YtihcdecdkpbpmaaDoor.OwnS Go.Proofs.YtihcdecdkpbpmaaDoorW.PrintWords

theorem rright_any (S : ByteArray) (w : World) (hs : S.size ≤ 500000) : Calls Tryd.prog 29 #[.string S] w (BoolPost (rightL S.data.toList) w) := by
  have HR := Lib.hid (right_eq S)
  go_enter Tryd.func29, Tryd.ntmps29
  go_wp2_with fail
  refine (rclean_any S w hs).mono ?_
  rintro x w1 ⟨rfl, h1⟩
  have H1 := Lib.hid h1
  clear h1
  obtain ⟨c, hc⟩ : ∃ c, cleanS S = c := ⟨_, rfl⟩
  obtain ⟨b, hb⟩ : ∃ b, cleanB S = b := ⟨_, rfl⟩
  rw [hc, hb] at HR ⊢
  clear hc hb
  cases b with
  | true =>
    obtain ⟨q, hq⟩ : ∃ q, (c.toList == S.toList) = q := ⟨_, rfl⟩
    rw [hq] at HR
    go_wp2_with fail
    go_ret
    exact ⟨by rw [← HR.out]; rfl, H1.out⟩
  | false =>
    go_wp2_with fail
    go_ret
    exact ⟨by rw [← HR.out]; rfl, H1.out⟩
theorem rsplit_right (S : ByteArray) (w : World) (hs : S.size ≤ 500000) : Calls Tryd.prog 11 #[.string S] w (ListPost (splitL S.data.toList) w) := by
  obtain ⟨b, hb⟩ : ∃ b, rightL S.data.toList = b := ⟨_, rfl⟩
  have HB := Lib.hid hb
  clear hb
  go_enter Tryd.func11, Tryd.ntmps11
  go_wp2_with fail
  refine (rright_any S w hs).mono ?_
  rintro x w1 ⟨rfl, h1⟩
  rw [HB.out]
  have H1 := Lib.hid h1
  clear h1
  cases b with
  | true =>
    have HL := Lib.hid (show splitL S.data.toList = partsL S.data.toList by unfold splitL; rw [HB.out, if_pos rfl])
    go_wp2_with fail
    refine (rparts_any S w1 hs).mono ?_
    rintro x w2 ⟨A, c, rfl, hc, hR, ho2⟩
    have H2 := Lib.hid (H1.out.trans' ho2)
    have HR := Lib.hid hR
    have HC := Lib.hid hc
    clear ho2 hR hc
    go_wp2_with fail
    go_ret
    exact ⟨A, c, by rw [HL.out]; rfl, by rw [HL.out]; exact HC.out, by rw [HL.out]; exact HR.out, H2.out⟩
  | false =>
    have HL := Lib.hid (show splitL S.data.toList = [] by unfold splitL; rw [HB.out, if_neg (by decide)])
    go_wp2_with fail
    go_ret
    exact ⟨none, 0, by rw [HL.out]; rfl, by rw [HL.out]; exact Nat.le_refl _, by rw [HL.out]; exact fun h0 => absurd h0 (by simp), H1.out⟩
end Go.Proofs.YtihcdecdkpbpmaaDoor.Walks
