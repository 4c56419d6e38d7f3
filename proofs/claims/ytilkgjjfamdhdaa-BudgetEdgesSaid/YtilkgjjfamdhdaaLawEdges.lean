/- The law on a ratio's edges answers true, whatever the numbers and the ratios. -/
import Derived.Test.YtilkgjjfamdhdaaTold
import Derived.Test.YtilkgjjfamdhdaaEdges
import Derived.Test.YtilkgjjfamdhdaaOpen
import Derived.Test.YtilkgjjfamdhdaaAid
import Derived.Deep.LoopGhost
import Derived.Deep.CutRange
import Derived.Deep.DeepCutAuto
namespace Go.Proofs.Ytilkgjjfamdhdaa.Walks
open Go Go.RowKit Go.Proofs.Ytilkgjjfamdhdaa.Aid Go.ChangeShapes Go.WideShapes

theorem nan_rg (x y t : Nat) : INF < rg (nanB x y t) := by
  have e : nanB x y t = (t % 2) * 9223372036854775808 + 9218868437227405312 + 1 + (t / 2) % 4503599627370495 := rfl
  rw [e]
  have hm : (t % 2 * 9223372036854775808 + 9218868437227405312 + 1 + t / 2 % 4503599627370495) % 9223372036854775808 = 9218868437227405312 + 1 + t / 2 % 4503599627370495 := by omega
  show 9218868437227405312 < (t % 2 * 9223372036854775808 + 9218868437227405312 + 1 + t / 2 % 4503599627370495) % 9223372036854775808
  rw [hm]; omega
theorem none_any (w : World) : Calls Try.prog 11 #[] w fun x w' => ∃ b, x = .returned (.float .f64 b) ∧ INF < rg b ∧ w' = w.drew := by
  have hq : FloatKind.f64.format.div 0 0 = none := by kernel_rfl
  have hr : (binOp .quo 22 (.float .f64 0) (.float .f64 0)).run Try.prog w = .ok (.float .f64 (nanB 0 0 (w.tape w.drawn (.nanBits .f64 0 0)))) w.drew := by
    have e : binOp .quo 22 (.float .f64 0) (.float .f64 0) = Op.floatArith .quo .f64 0 0 := by simp [binOp]
    rw [e]
    unfold Op.floatArith
    simp only [hq]
    rfl
  have HN := Lib.hid (nan_rg 0 0 (w.tape w.drawn (.nanBits .f64 0 0)))
  generalize nanB 0 0 (w.tape w.drawn (.nanBits .f64 0 0)) = b at hr HN
  clear hq
  go_enter Try.func11, Try.ntmps11
  go_wp2_with fail
  go_ret
  exact ⟨b, rfl, HN.out, rfl⟩
theorem quo1 : floatBits .quo .f64 4607182418800017408 0 = some 9218868437227405312 := by kernel_rfl
theorem quo2 : floatBits .quo .f64 13830554455654793216 9218868437227405312 = some 9223372036854775808 := by kernel_rfl
theorem andMost (x : Int) : Go.bits .and .i64 x 1073741823 = x % 1073741824 := mask_any stays_i64 (i := 30) (by decide) x
set_option maxRecDepth 100000 in
set_option maxHeartbeats 2000000 in
theorem lawEdges_any (n m : Int) (a b : Nat) (w : World) : Calls Try.prog 4 #[.int .i64 n, .int .i64 m, .float .f64 a, .float .f64 b] w fun x w' => x = .returned (.bool true) ∧ Below w.heap.size w w' := by
  have an := andMost n
  have am := andMost m
  obtain ⟨X, hX⟩ : ∃ X, X = n % 1073741824 := ⟨_, rfl⟩
  obtain ⟨Y, hY⟩ : ∃ Y, Y = m % 1073741824 := ⟨_, rfl⟩
  rw [← hX] at an
  rw [← hY] at am
  have bX : 0 ≤ X ∧ X ≤ 1073741823 := by omega
  have bY : 0 ≤ Y ∧ Y ≤ 1073741823 := by omega
  clear hX hY
  have q1 := fun w => run_float_arith (P := Try.prog) w .quo 22 .f64 _ _ _ quo1
  have q2 := fun w => run_float_arith (P := Try.prog) w .quo 22 .f64 _ _ _ quo2
  have q3 : ∀ w, (Op.unary .neg (.float .f64 9218868437227405312)).run Try.prog w = .ok (.float .f64 18442240474082181120) w := fun _ => by kernel_rfl
  have e2 := edge_inf (x := 1 + X) (y := 1 + Y) (r := 9218868437227405312) (by omega) (by omega) (by omega) (by omega) rfl rfl
  have e3 := edge_zero (x := 1 + X) (y := 1 + Y) (r := 0) (by omega) (by omega) (by omega) (by omega) rfl
  have e4 := edge_zero (x := 1 + X) (y := 1 + Y) (r := 9223372036854775808) (by omega) (by omega) (by omega) (by omega) rfl
  have e5 := edge_neg (x := 1 + X) (y := 1 + Y) (r := 13830554455654793216) (by omega) (by omega) (by omega) (by omega) (by unfold rg TOP INF; omega) rfl
  have e6 := edge_neg (x := 1 + X) (y := 1 + Y) (r := 18442240474082181120) (by omega) (by omega) (by omega) (by omega) (by unfold rg TOP INF; omega) rfl
  have e7 := edge_none (x := 1) (y := 1 + Y) (r := 0) (by omega) (by omega) (by omega) (by omega) rfl
  go_enter Try.func4, Try.ntmps4
  go_wp2_with fail
  go_at_call 11
  refine (none_any w).mono ?_
  rintro x w1 ⟨nn, rfl, hnn, rfl⟩
  have e1 := edge_nan (x := 1 + X) (y := 1 + Y) (r := nn) (by omega) (by omega) (by omega) (by omega) hnn
  clear hnn
  go_upto_region 7 with (first | (go_at_call 9; refine (over_any _ _ _ _).mono ?_; rintro x w' ⟨rfl, kk, rfl⟩))
  clear q1 q2 q3 e1 e2 e3 e4 e5 e6 e7
  go_cut [96] (fun c wx => c = .bool false ∧ ∃ k, wx = w.drewN k)
  case first =>
    cases hp1 : overC (1 + X) (1 + Y) a
    · cases hp2 : overC (1 + X) (1 + Y + 1) a
      · go_wp2_with (first | (go_at_call 9; refine (over_any _ _ _ _).mono ?_; rintro x w' ⟨rfl, kk, rfl⟩))
        go_meet
        exact ⟨rfl, _, rfl⟩
      · have hq : (FloatKind.f64.format.order a 0 == some .gt || FloatKind.f64.format.order a 0 == some .eq) = false := by
          rw [Bool.eq_false_iff]
          intro h
          have := edge_packed (x := 1 + X) (y := 1 + Y) (by omega) (by omega) (by omega) (by omega) hp2 h
          rw [hp1] at this; cases this
        go_wp2_with (first | (go_at_call 9; refine (over_any _ _ _ _).mono ?_; rintro x w' ⟨rfl, kk, rfl⟩))
        go_meet
        exact ⟨rfl, _, rfl⟩
    · have hp3 := edge_more (x := 1 + X) (y := 1 + Y) (by omega) (by omega) (by omega) (by omega) hp1
      cases hp2 : overC (1 + X) (1 + Y + 1) a
      · go_wp2_with (first | (go_at_call 9; refine (over_any _ _ _ _).mono ?_; rintro x w' ⟨rfl, kk, rfl⟩))
        go_meet
        exact ⟨rfl, _, rfl⟩
      · cases hq : (FloatKind.f64.format.order a 0 == some .gt || FloatKind.f64.format.order a 0 == some .eq)
        · go_wp2_with (first | (go_at_call 9; refine (over_any _ _ _ _).mono ?_; rintro x w' ⟨rfl, kk, rfl⟩))
          go_meet
          exact ⟨rfl, _, rfl⟩
        · go_wp2_with (first | (go_at_call 9; refine (over_any _ _ _ _).mono ?_; rintro x w' ⟨rfl, kk, rfl⟩))
          go_meet
          exact ⟨rfl, _, rfl⟩
  case rest =>
    obtain ⟨rfl, k0, rfl⟩ := hcut
    cases hl : (FloatKind.f64.format.order a b == some .lt || FloatKind.f64.format.order a b == some .eq)
    · go_wp2_with fail
      go_at_call 8
      refine (told_any _).mono ?_
      rintro x w2 ⟨rfl, hb2⟩
      go_wp2_with (first | (go_at_call 9; refine (over_any _ _ _ _).mono ?_; rintro x w' ⟨rfl, kk, rfl⟩))
      go_ret
      exact ⟨rfl, (((Only.refl (fun _ => False) w).drewN k0).trans (Only.of_below hb2 (fun _ => False)) (fun _ hk => hk.elim)).none⟩
    · cases hp3 : overC (1 + X) (1 + Y) b
      · go_wp2_with fail
        go_at_call 8
        refine (told_any _).mono ?_
        rintro x w2 ⟨rfl, hb2⟩
        go_wp2_with (first | (go_at_call 9; refine (over_any _ _ _ _).mono ?_; rintro x w' ⟨rfl, kk, rfl⟩))
        go_ret
        exact ⟨rfl, ((((Only.refl (fun _ => False) w).drewN k0).trans (Only.of_below hb2 (fun _ => False)) (fun _ hk => hk.elim)).drewN _).none⟩
      · have hp1 := edge_ratio (x := 1 + X) (y := 1 + Y) (by omega) (by omega) (by omega) (by omega) hl hp3
        go_wp2_with fail
        go_at_call 8
        refine (told_any _).mono ?_
        rintro x w2 ⟨rfl, hb2⟩
        go_wp2_with (first | (go_at_call 9; refine (over_any _ _ _ _).mono ?_; rintro x w' ⟨rfl, kk, rfl⟩))
        go_ret
        exact ⟨rfl, ((((Only.refl (fun _ => False) w).drewN k0).trans (Only.of_below hb2 (fun _ => False)) (fun _ hk => hk.elim)).drewN _).none⟩
theorem lawEdges {H : Type} {enc : TypeId × Value → H} {W : World} {base : Nat} {v0 v1 v2 v3 : Value} {d0 d1 d2 d3 : DataW H} {p0 p1 p2 p3 : List MemPlace} {ts : List TypeId} {ds : List (DataW H)}
    (ov0 : Value.okWide Try.prog W .any base 3 v0) (k0 : DataW.Trod enc Try.prog W 0 (fun _ => true) true 3 v0 d0 p0)
    (ov1 : Value.okWide Try.prog W .any base 3 v1) (k1 : DataW.Trod enc Try.prog W 0 (fun _ => true) true 3 v1 d1 p1)
    (ov2 : Value.okWide Try.prog W .any base 22 v2) (k2 : DataW.Trod enc Try.prog W 0 (fun _ => true) true 22 v2 d2 p2)
    (ov3 : Value.okWide Try.prog W .any base 22 v3) (k3 : DataW.Trod enc Try.prog W 0 (fun _ => true) true 22 v3 d3 p3)
    (_ : (DataW.weightsEach Try.prog ts ds).all (· ≤ reachBytes) = true) :
    Calls Try.prog 4 #[v0, v1, v2, v3] W fun e w' => e = .returned (.bool true) ∧ Below W.heap.size W w' := by
  obtain ⟨n, rfl, _, _, _⟩ := open_int Try.underlying3 ov0 k0
  obtain ⟨m, rfl, _, _, _⟩ := open_int Try.underlying3 ov1 k1
  obtain ⟨a, rfl, _, _, _⟩ := open_float Try.underlying22 ov2 k2
  obtain ⟨b, rfl, _, _, _⟩ := open_float Try.underlying22 ov3 k3
  exact lawEdges_any n m a b W
end Go.Proofs.Ytilkgjjfamdhdaa.Walks
