/- DetectNames answers true. -/
import Derived.Test.YtgleehnmnmmdcaaDoorTold
namespace Go.Proofs.YtgleehnmnmmdcaaDoor.Walks
open Go Go.RowKit Go.Proofs.YtgleehnmnmmdcaaDoor.Aid Go.Proofs.YtgleehnmnmmdcaaDoor.Own Go.ChangeShapes Go.WideShapes

theorem name_out {a : Int} (h : ¬ (1 ≤ a ∧ a ≤ 5)) : nameOf a = ⟨#[]⟩ := by
  unfold nameOf
  rw [if_neg (by omega), if_neg (by omega), if_neg (by omega), if_neg (by omega), if_neg (by omega)]
theorem parse_name {a : Int} (h : 1 ≤ a ∧ a ≤ 5) : parseOf (nameOf a) = a := by
  rcases (show a = 1 ∨ a = 2 ∨ a = 3 ∨ a = 4 ∨ a = 5 by omega) with rfl | rfl | rfl | rfl | rfl <;> decide
theorem name_same {a b : Int} (h : 1 ≤ a ∧ a ≤ 5) : (nameOf a = nameOf b) ↔ a = b := by
  constructor
  · intro e
    by_cases hb : 1 ≤ b ∧ b ≤ 5
    · rw [← parse_name h, ← parse_name hb, e]
    · rw [name_out hb] at e
      rcases (show a = 1 ∨ a = 2 ∨ a = 3 ∨ a = 4 ∨ a = 5 by omega) with rfl | rfl | rfl | rfl | rfl <;> exact absurd e (by decide)
  · rintro rfl; rfl
set_option maxHeartbeats 4000000 in
theorem names_any (a b : Int) (w : World) : Calls Tryd.prog 5 #[.int .i64 a, .int .i64 b] w (ProbePost true w) := by
  obtain ⟨x, hx⟩ : ∃ x, nameOf a = x := ⟨_, rfl⟩
  obtain ⟨y, hy⟩ : ∃ y, nameOf b = y := ⟨_, rfl⟩
  have HX := Lib.hid hx
  have HY := Lib.hid hy
  by_cases c : 1 ≤ a ∧ a ≤ 5
  · have p1 : parseOf x = a := by rw [← hx]; exact parse_name c
    have p2 : decide (a ≠ 0) = true := decide_eq_true (by omega)
    have p3 : (x.toList == y.toList) = (a == b) := by
      rw [str_eq, ← hx, ← hy]
      by_cases e : a = b
      · rw [decide_eq_true ((name_same c).2 e)]; exact (beq_iff_eq.mpr e).symm
      · rw [decide_eq_false (fun h => e ((name_same c).1 h))]; exact (beq_eq_false_iff_ne.mpr e).symm
    have P1 := Lib.hid p1
    have P2 := Lib.hid p2
    have c1 : decide (a < 1) = false := decide_eq_false (by omega)
    have c2 : decide (a > 5) = false := decide_eq_false (by omega)
    clear hx hy p1 p2 c
    go_enter Tryd.func5, Tryd.ntmps5
    go_wp2_with (first
      | (go_at_call 11; refine (name_any _ _).mono ?_; rintro e w' ⟨rfl, rfl⟩; first | rw [HX.out] | rw [HY.out])
      | (go_at_call 10; refine (parse_any _ _).mono ?_; rintro e w' ⟨rfl, rfl⟩; rw [P1.out, P2.out])
      | (go_at_call 7; refine (told_any _).mono ?_; rintro e w' ⟨rfl, ho⟩; replace ho := Lib.hid ho))
    go_ret
    exact ⟨rfl, ho.out⟩
  · have ex : x = ⟨#[]⟩ := by rw [← hx]; exact name_out c
    subst ex
    have P1 := Lib.hid (show parseOf ⟨#[]⟩ = 0 by decide)
    by_cases c0 : a < 1
    · have c1 : decide (a < 1) = true := decide_eq_true c0
      clear hx hy c c0
      go_enter Tryd.func5, Tryd.ntmps5
      go_wp2_with (first
        | (go_at_call 11; refine (name_any _ _).mono ?_; rintro e w' ⟨rfl, rfl⟩; first | rw [HX.out] | rw [HY.out])
        | (go_at_call 10; refine (parse_any _ _).mono ?_; rintro e w' ⟨rfl, rfl⟩; rw [P1.out])
        | (go_at_call 7; refine (told_any _).mono ?_; rintro e w' ⟨rfl, ho⟩; replace ho := Lib.hid ho))
      go_ret
      exact ⟨rfl, ho.out⟩
    · have c1 : decide (a < 1) = false := decide_eq_false c0
      have c2 : decide (a > 5) = true := decide_eq_true (by omega)
      clear hx hy c c0
      go_enter Tryd.func5, Tryd.ntmps5
      go_wp2_with (first
        | (go_at_call 11; refine (name_any _ _).mono ?_; rintro e w' ⟨rfl, rfl⟩; first | rw [HX.out] | rw [HY.out])
        | (go_at_call 10; refine (parse_any _ _).mono ?_; rintro e w' ⟨rfl, rfl⟩; rw [P1.out])
        | (go_at_call 7; refine (told_any _).mono ?_; rintro e w' ⟨rfl, ho⟩; replace ho := Lib.hid ho))
      go_ret
      exact ⟨rfl, ho.out⟩
theorem lawNames {H : Type} {enc : TypeId × Value → H} {W : World} {base : Nat} {v0 v1 : Value} {d0 d1 : DataW H} {p0 p1 : List MemPlace} {ts : List TypeId} {ds : List (DataW H)}
    (ov0 : Value.okWide Tryd.prog W .any base 3 v0) (k0 : DataW.Trod enc Tryd.prog W 0 (fun _ => true) true 3 v0 d0 p0)
    (ov1 : Value.okWide Tryd.prog W .any base 3 v1) (k1 : DataW.Trod enc Tryd.prog W 0 (fun _ => true) true 3 v1 d1 p1)
    (_ : (DataW.weightsEach Tryd.prog ts ds).all (· ≤ reachBytes) = true) :
    Calls Tryd.prog 5 #[v0, v1] W fun e w' => e = .returned (.bool true) ∧ Below W.heap.size W w' := by
  obtain ⟨n, rfl, _, _, _⟩ := open_int Tryd.underlying3 ov0 k0
  obtain ⟨m, rfl, _, _, _⟩ := open_int Tryd.underlying3 ov1 k1
  exact (names_any n m W).mono fun x w' h => ⟨h.1, h.2.none⟩
end Go.Proofs.YtgleehnmnmmdcaaDoor.Walks
