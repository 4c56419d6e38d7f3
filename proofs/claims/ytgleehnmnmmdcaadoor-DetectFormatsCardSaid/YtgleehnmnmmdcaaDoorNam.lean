/- Contracts of Name and Parse. -/
import Derived.Test.YtgleehnmnmmdcaaDoorProg
import Derived.Test.YtgleehnmnmmdcaaDoorOnly
import Derived.WalkKit
import Derived.KernelRfl
import Derived.WalkLawsBesides
import Derived.WalkSpells
import Derived.Deep.QuietTactic
import Derived.BigQuiet
import Derived.BigRegion
import Derived.Deep.Draws
import Derived.Deep.LoopGhost
import Derived.Deep.CutRange
import Derived.Deep.DeepCutAuto
import Derived.Lib.Hide
import Derived.Outline
import Derived.Lib.Strings
import Derived.Test.YtgleehnmnmmdcaaDoorAid
namespace Go.Proofs.YtgleehnmnmmdcaaDoor.Walks
open Go Go.RowKit Go.Proofs.YtgleehnmnmmdcaaDoor.Aid

theorem str_eq (a b : ByteArray) : (a.toList == b.toList) = decide (a = b) := by
  rw [Lib.toList_data, Lib.toList_data]
  by_cases h : a = b
  · subst h; simp
  · rw [decide_eq_false h]
    exact beq_eq_false_iff_ne.mpr (fun e => h (ByteArray.ext (Array.ext' e)))
/-- A format's name. -/
def nameOf (n : Int) : ByteArray :=
  if n = 1 then ⟨#[122, 105, 112]⟩ else if n = 2 then ⟨#[116, 97, 114]⟩ else if n = 3 then ⟨#[99, 112, 105, 111]⟩ else if n = 4 then ⟨#[103, 122, 105, 112]⟩ else if n = 5 then ⟨#[122, 108, 105, 98]⟩ else ⟨#[]⟩
theorem name_any (n : Int) (w : World) : Calls Tryd.prog 11 #[.int .i64 n] w fun x w' => x = .returned (.string (nameOf n)) ∧ w' = w := by
  by_cases h1 : n = 1
  · subst h1
    go_enter Tryd.func11, Tryd.ntmps11
    go_wp2_with fail
    go_ret
    exact ⟨rfl, rfl⟩
  by_cases h2 : n = 2
  · subst h2
    go_enter Tryd.func11, Tryd.ntmps11
    go_wp2_with fail
    go_ret
    exact ⟨rfl, rfl⟩
  by_cases h3 : n = 3
  · subst h3
    go_enter Tryd.func11, Tryd.ntmps11
    go_wp2_with fail
    go_ret
    exact ⟨rfl, rfl⟩
  by_cases h4 : n = 4
  · subst h4
    go_enter Tryd.func11, Tryd.ntmps11
    go_wp2_with fail
    go_ret
    exact ⟨rfl, rfl⟩
  by_cases h5 : n = 5
  · subst h5
    go_enter Tryd.func11, Tryd.ntmps11
    go_wp2_with fail
    go_ret
    exact ⟨rfl, rfl⟩
  have e1 : (n == 1) = false := beq_eq_false_iff_ne.mpr h1
  have e2 : (n == 2) = false := beq_eq_false_iff_ne.mpr h2
  have e3 : (n == 3) = false := beq_eq_false_iff_ne.mpr h3
  have e4 : (n == 4) = false := beq_eq_false_iff_ne.mpr h4
  have e5 : (n == 5) = false := beq_eq_false_iff_ne.mpr h5
  have HN := Lib.hid (show nameOf n = ⟨#[]⟩ by unfold nameOf; rw [if_neg h1, if_neg h2, if_neg h3, if_neg h4, if_neg h5])
  clear h1 h2 h3 h4 h5
  go_enter Tryd.func11, Tryd.ntmps11
  go_wp2_with fail
  go_ret
  exact ⟨by rw [HN.out]; rfl, rfl⟩
/-- The format of a name, 0 where there is none. -/
def parseOf (s : ByteArray) : Int := if s = nameOf 1 then 1 else if s = nameOf 2 then 2 else if s = nameOf 3 then 3 else if s = nameOf 4 then 4 else if s = nameOf 5 then 5 else 0
theorem parse_first {s : ByteArray} {i : Nat} (h1 : 1 ≤ i) (h5 : i ≤ 5) (hn : ∀ j : Nat, 1 ≤ j → j < i → s ≠ nameOf (j : Int)) (he : s = nameOf (i : Int)) : parseOf s = (i : Int) := by
  unfold parseOf
  rcases (show i = 1 ∨ i = 2 ∨ i = 3 ∨ i = 4 ∨ i = 5 by omega) with rfl | rfl | rfl | rfl | rfl
  · rw [if_pos (show s = nameOf 1 from he)]; rfl
  · rw [if_neg (show ¬ s = nameOf 1 from hn 1 (by decide) (by decide)), if_pos (show s = nameOf 2 from he)]; rfl
  · rw [if_neg (show ¬ s = nameOf 1 from hn 1 (by decide) (by decide)), if_neg (show ¬ s = nameOf 2 from hn 2 (by decide) (by decide)), if_pos (show s = nameOf 3 from he)]; rfl
  · rw [if_neg (show ¬ s = nameOf 1 from hn 1 (by decide) (by decide)), if_neg (show ¬ s = nameOf 2 from hn 2 (by decide) (by decide)), if_neg (show ¬ s = nameOf 3 from hn 3 (by decide) (by decide)), if_pos (show s = nameOf 4 from he)]; rfl
  · rw [if_neg (show ¬ s = nameOf 1 from hn 1 (by decide) (by decide)), if_neg (show ¬ s = nameOf 2 from hn 2 (by decide) (by decide)), if_neg (show ¬ s = nameOf 3 from hn 3 (by decide) (by decide)), if_neg (show ¬ s = nameOf 4 from hn 4 (by decide) (by decide)), if_pos (show s = nameOf 5 from he)]; rfl
theorem parse_none {s : ByteArray} (hn : ∀ j : Nat, 1 ≤ j → j < 6 → s ≠ nameOf (j : Int)) : parseOf s = 0 := by
  unfold parseOf
  rw [if_neg (show ¬ s = nameOf 1 from hn 1 (by decide) (by decide)), if_neg (show ¬ s = nameOf 2 from hn 2 (by decide) (by decide)), if_neg (show ¬ s = nameOf 3 from hn 3 (by decide) (by decide)), if_neg (show ¬ s = nameOf 4 from hn 4 (by decide) (by decide)), if_neg (show ¬ s = nameOf 5 from hn 5 (by decide) (by decide))]
def ParPost (s : ByteArray) (w : World) (x : Ending) (w' : World) : Prop := x = .returned (.tuple #[.int .i64 (parseOf s), .bool (decide (parseOf s ≠ 0))]) ∧ w' = w
set_option maxHeartbeats 2000000 in
theorem parse_any (s : ByteArray) (w : World) : Calls Tryd.prog 10 #[.string s] w (ParPost s w) := by
  go_enter Tryd.func10, Tryd.ntmps10
  go_wp2_with fail
  go_loopw [4] (fun v4 u => ∃ i : Nat, v4 = .int .i64 (i : Int) ∧ 1 ≤ i ∧ i ≤ 6 ∧ Hid (∀ j : Nat, 1 ≤ j → j < i → s ≠ nameOf (j : Int)) ∧ u = w) (fun i _ => 6 - (intOf i).toNat)
  case atStart => exact ⟨1, rfl, by decide, by decide, Lib.hid (fun j h1 h2 => absurd h1 (by omega)), rfl⟩
  case round =>
    obtain ⟨i, rfl, hi1, hi6, hn, rfl⟩ := hrel
    by_cases c : i ≤ 5
    · have c1 : decide ((i : Int) ≤ 5) = true := decide_eq_true (by omega)
      go_wp2_with fail
      go_at_call 11
      refine (name_any (i : Int) _).mono ?_
      rintro x w' ⟨rfl, rfl⟩
      by_cases e : nameOf (i : Int) = s
      · have HP := Lib.hid (parse_first hi1 c hn.out e.symm)
        have e1 : ((nameOf (i : Int)).toList == s.toList) = true := (str_eq _ _).trans (decide_eq_true e)
        clear e
        go_wp2_with fail
        go_ret2
        unfold ParPost
        rw [HP.out]
        exact ⟨by rw [decide_eq_true (show (i : Int) ≠ 0 by omega)]; rfl, rfl⟩
      · have e1 : ((nameOf (i : Int)).toList == s.toList) = false := (str_eq _ _).trans (decide_eq_false e)
        have hn2 := Lib.hid (show ∀ j : Nat, 1 ≤ j → j < i + 1 → s ≠ nameOf (j : Int) from fun j h1 h2 => by
          by_cases ej : j = i
          · subst ej; exact fun h => e h.symm
          · exact hn.out j h1 (by omega))
        clear e
        go_wp2_with fail
        exact ⟨⟨i + 1, by simp, by omega, by omega, hn2, by trivial⟩, by simp [intOf]; omega⟩
    · have c1 : decide ((i : Int) ≤ 5) = false := decide_eq_false (by omega)
      have HP := Lib.hid (parse_none (fun j h1 h2 => hn.out j h1 (by omega)))
      go_wp2_with fail
      go_ret2
      unfold ParPost
      rw [HP.out]
      exact ⟨rfl, rfl⟩
end Go.Proofs.YtgleehnmnmmdcaaDoor.Walks
