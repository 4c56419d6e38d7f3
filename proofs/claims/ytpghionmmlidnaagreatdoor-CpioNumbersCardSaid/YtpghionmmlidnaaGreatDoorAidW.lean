/- Plain lemmas on the words of the print; no condition. -/
import Derived.Test.YtpghionmmlidnaaGreatDoorWWords
import Derived.Test.YtpghionmmlidnaaGreatDoorWMore
import Derived.Test.YtpghionmmlidnaaGreatDoorAid
namespace Go.Proofs.YtpghionmmlidnaaGreatDoor.Aid
open Go Go.RowKit Go.Proofs.YtpghionmmlidnaaGreatDoorW.PrintWords

theorem rd_at (p : List Int) (c : Int) (r : List Int) : rd (p ++ c :: r) (p.length : Int) = c := by
  unfold rd; simp
end Go.Proofs.YtpghionmmlidnaaGreatDoor.Aid
