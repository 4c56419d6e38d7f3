/- Contracts of math.Floor, clock.Unix, clock.FromUnix, clock.Fine, in the words of the model's own floats. -/
import Derived.Test.YtpghionmmlidnaaGreatDoorRep
import Derived.Test.YtpghionmmlidnaaGreatDoorTim
import Derived.Laws.FloatArith
import Derived.Laws.Externs
namespace Go.Proofs.YtpghionmmlidnaaGreatDoor.Walks
open Go Go.RowKit Go.Proofs.YtpghionmmlidnaaGreatDoor.Aid Go.Proofs.YtpghionmmlidnaaGreatDoor.Pth Go.Proofs.YtpghionmmlidnaaGreatDoor.Own Go.Proofs.YtpghionmmlidnaaGreatDoorW.PrintWords

def flB (x : Nat) : Nat := FloatKind.f64.encode ((FloatKind.f64.decode x).integral .down)
theorem order_self (x : Nat) (h : isN x = false) : (FloatKind.f64.decode x).isNaN = false := by
  cases hd : FloatKind.f64.decode x with
  | number => rfl
  | infinity => rfl
  | nan s t =>
    have e : FloatKind.f64.format.order x x = none := by
      show Ieee.Datum.order (FloatKind.f64.decode x) (FloatKind.f64.decode x) = none
      rw [hd]; rfl
    unfold isN at h
    rw [e] at h
    exact absurd h (by decide)
theorem ext_floor (w : World) (x : Nat) (h : isN x = false) : (callFunc 89 #[.float .f64 x]).run Tryz.prog w = .ok (.value (.float .f64 (flB x))) w := by
  rw [run_callFunc_extern Tryz.func89 (by kernel_rfl) (by kernel_rfl) (by kernel_rfl) (e := Extern.MathFloor.toIntegral "math.archFloor" .down) (by kernel_rfl)]
  have hn := order_self x h
  have e : (Extern.MathFloor.toIntegral "math.archFloor" .down #[.float .f64 x]).run Tryz.prog w = .ok (.float .f64 (flB x)) w := by
    change Sem.run Tryz.prog (match FloatKind.f64.decode x with
      | .nan s t =>
        if FloatKind.f64.format.quiet t = t then pure (Value.float .f64 x) else do
        let kept ← choose (.extern "math.Floor,Ceil,Trunc,RoundToEven.signallingNaN kept" 2)
        pure (Value.float .f64 (if kept == 1 then x else FloatKind.f64.encode (.nan s (FloatKind.f64.format.quiet t))))
      | d => pure (Value.float .f64 (FloatKind.f64.encode (d.integral .down)))) w = _
    unfold flB
    cases hd : FloatKind.f64.decode x with
    | nan s t => rw [hd] at hn; exact absurd hn (by simp [Ieee.Datum.isNaN])
    | number => rfl
    | infinity => rfl
  rw [e]; rfl
set_option maxRecDepth 100000 in
set_option maxHeartbeats 4000000 in
theorem floor_any (w : World) (x : Nat) (h : isN x = false) : Calls Tryz.prog 57 #[.float .f64 x] w (fun r w' => r = .returned (.float .f64 (flB x)) ∧ w' = w) := by
  have hd := ext_floor w x h
  clear h
  go_enter Tryz.func57, Tryz.ntmps57
  go_wp2_with fail
  go_ret
  exact ⟨rfl, rfl⟩
def unixF (t : Nat) : Int := if isN t || FloatKind.f64.format.order t 0 == some .lt then 0 else if FloatKind.f64.format.order t 4751297606873776128 == some .gt || FloatKind.f64.format.order t 4751297606873776128 == some .eq then 4294967295 else (floatToIntVal .f64 (flB t) .i64).getD 0
/-- What the walk asks of a time that is neither below nor above. -/
def UnixOk (t : Nat) : Prop := isN t = false → (FloatKind.f64.format.order t 0 == some .lt) = false → (FloatKind.f64.format.order t 4751297606873776128 == some .gt) = false → (FloatKind.f64.format.order t 4751297606873776128 == some .eq) = false → ∃ n, floatToIntVal .f64 (flB t) .i64 = some n
set_option maxRecDepth 100000 in
set_option maxHeartbeats 4000000 in
theorem unix_any (w : World) (t : Nat) (hOk : UnixOk t) : Calls Tryz.prog 27 #[.float .f64 t] w (fun r w' => r = .returned (.int .i64 (unixF t)) ∧ w' = w) := by
  obtain ⟨b1, h1⟩ : ∃ b : Bool, isN t = b := ⟨_, rfl⟩
  have H1 := Lib.hid h1
  have g1 : (FloatKind.f64.format.order t t != some .eq) = b1 := h1
  cases b1
  · obtain ⟨b2, h2⟩ : ∃ b : Bool, (FloatKind.f64.format.order t 0 == some .lt) = b := ⟨_, rfl⟩
    have H2 := Lib.hid h2
    cases b2
    · obtain ⟨b3, h3⟩ : ∃ b : Bool, (FloatKind.f64.format.order t 4751297606873776128 == some .gt) = b := ⟨_, rfl⟩
      have H3 := Lib.hid h3
      obtain ⟨b4, h4⟩ : ∃ b : Bool, (FloatKind.f64.format.order t 4751297606873776128 == some .eq) = b := ⟨_, rfl⟩
      have H4 := Lib.hid h4
      cases b3 <;> cases b4
      · obtain ⟨n, hn⟩ := hOk h1 h2 h3 h4
        have hv := run_convert_float_int (P := Tryz.prog) w 38 3 .f64 .i64 (flB t) n (by kernel_rfl) (by kernel_rfl) hn
        have HN := Lib.hid hn
        have Hhf := Lib.hid (floor_any w t h1)
        clear hn h1
        go_enter Tryz.func27, Tryz.ntmps27
        go_wp2_with (go_at_call 57; refine Hhf.out.mono ?_; rintro x w' ⟨rfl, rfl⟩)
        go_ret
        exact ⟨by unfold unixF; rw [H1.out, H2.out, H3.out, H4.out, HN.out]; rfl, rfl⟩
      all_goals
        clear h1
        go_enter Tryz.func27, Tryz.ntmps27
        go_wp2_with fail
        go_ret
        exact ⟨by unfold unixF; rw [H1.out, H2.out, H3.out, H4.out]; rfl, rfl⟩
    · go_enter Tryz.func27, Tryz.ntmps27
      go_wp2_with fail
      go_ret
      exact ⟨by unfold unixF; rw [H1.out, H2.out]; rfl, rfl⟩
  · go_enter Tryz.func27, Tryz.ntmps27
    go_wp2_with fail
    go_ret
    exact ⟨by unfold unixF; rw [H1.out]; rfl, rfl⟩
def nanW : Nat := 9221120237041090561
theorem ext_frombits (w : World) (n : Int) : (callFunc 88 #[.int .u64 n]).run Tryz.prog w = .ok (.value (.float .f64 n.toNat)) w := by
  rw [run_callFunc_extern Tryz.func88 (by kernel_rfl) (by kernel_rfl) (by kernel_rfl) (e := Extern.MathFloatBits.float64frombits) (by kernel_rfl)]
  rfl
set_option maxRecDepth 100000 in
set_option maxHeartbeats 4000000 in
theorem nan_any (w : World) : Calls Tryz.prog 56 #[] w (fun r w' => r = .returned (.float .f64 nanW) ∧ w' = w) := by
  have hd := ext_frombits w 9221120237041090561
  go_enter Tryz.func56, Tryz.ntmps56
  go_wp2_with fail
  go_ret
  exact ⟨rfl, rfl⟩
def fromUnixF (v : Int) : Nat := if v < 1 ∨ 4294967295 < v then nanW else floatOfInt .f64 v
set_option maxRecDepth 100000 in
set_option maxHeartbeats 4000000 in
theorem fromUnix_any (w : World) (v : Int) : Calls Tryz.prog 55 #[.int .i64 v] w (fun r w' => r = .returned (.float .f64 (fromUnixF v)) ∧ w' = w) := by
  have Hhnan := Lib.hid (nan_any w)
  by_cases c1 : v < 1
  · have d1 : decide (v < 1) = true := decide_eq_true c1
    have HR := Lib.hid (show fromUnixF v = nanW by unfold fromUnixF; rw [if_pos (Or.inl c1)])
    go_enter Tryz.func55, Tryz.ntmps55
    go_wp2_with (go_at_call 56; refine Hhnan.out.mono ?_; rintro x w' ⟨rfl, rfl⟩)
    go_ret
    exact ⟨by rw [HR.out]; rfl, rfl⟩
  · by_cases c2 : 4294967295 < v
    · have d2 : decide (4294967295 < v) = true := decide_eq_true c2
      have d1 : decide (v < 1) = false := decide_eq_false c1
      have HR := Lib.hid (show fromUnixF v = nanW by unfold fromUnixF; rw [if_pos (Or.inr c2)])
      go_enter Tryz.func55, Tryz.ntmps55
      go_wp2_with (go_at_call 56; refine Hhnan.out.mono ?_; rintro x w' ⟨rfl, rfl⟩)
      go_ret
      exact ⟨by rw [HR.out]; rfl, rfl⟩
    · have d2 : decide (4294967295 < v) = false := decide_eq_false c2
      have d1 : decide (v < 1) = false := decide_eq_false c1
      have HR := Lib.hid (show fromUnixF v = floatOfInt .f64 v by unfold fromUnixF; rw [if_neg (by omega)])
      go_enter Tryz.func55, Tryz.ntmps55
      go_wp2_with fail
      go_ret
      exact ⟨by rw [HR.out]; rfl, rfl⟩
def fineF (t : Nat) : Nat := if isN t then 0 else if FloatKind.f64.format.order t 13979173243358019584 == some .lt then 13979173243358019584 else if FloatKind.f64.format.order t 4755801206503243776 == some .gt then 4755801206503243776
  else match floatBits .mul .f64 t 4647714815446351872 with
    | some p => match floatBits .quo .f64 (flB p) 4647714815446351872 with
      | some q => if FloatKind.f64.format.order q 0 != some .eq then q else 0
      | none => 0
    | none => 0
def FineOk (t : Nat) : Prop := isN t = false → (FloatKind.f64.format.order t 13979173243358019584 == some .lt) = false → (FloatKind.f64.format.order t 4755801206503243776 == some .gt) = false → ∃ p q, floatBits .mul .f64 t 4647714815446351872 = some p ∧ isN p = false ∧ floatBits .quo .f64 (flB p) 4647714815446351872 = some q
set_option maxRecDepth 100000 in
set_option maxHeartbeats 4000000 in
theorem fine_any (w : World) (t : Nat) (hOk : FineOk t) : Calls Tryz.prog 50 #[.float .f64 t] w (fun r w' => r = .returned (.float .f64 (fineF t)) ∧ w' = w) := by
  obtain ⟨b1, h1⟩ : ∃ b : Bool, isN t = b := ⟨_, rfl⟩
  have H1 := Lib.hid h1
  have g1 : (FloatKind.f64.format.order t t != some .eq) = b1 := h1
  obtain ⟨b2, h2⟩ : ∃ b : Bool, (FloatKind.f64.format.order t 13979173243358019584 == some .lt) = b := ⟨_, rfl⟩
  have H2 := Lib.hid h2
  obtain ⟨b3, h3⟩ : ∃ b : Bool, (FloatKind.f64.format.order t 4755801206503243776 == some .gt) = b := ⟨_, rfl⟩
  have H3 := Lib.hid h3
  cases b1
  · cases b2
    · cases b3
      · obtain ⟨p, q, hp, hpn, hq⟩ := hOk h1 h2 h3
        have HR := Lib.hid (show fineF t = if FloatKind.f64.format.order q 0 != some .eq then q else 0 by unfold fineF; rw [h1, h2, h3, hp]; dsimp only; rw [hq]; rfl)
        have hv := run_float_arith (P := Tryz.prog) w .mul 38 .f64 t 4647714815446351872 p hp
        have hw := run_float_arith (P := Tryz.prog) w .quo 38 .f64 (flB p) 4647714815446351872 q hq
        have Hhf := Lib.hid (floor_any w p hpn)
        obtain ⟨b5, h5⟩ : ∃ b : Bool, (FloatKind.f64.format.order q 0 != some .eq) = b := ⟨_, rfl⟩
        have H5 := Lib.hid h5
        clear hp hq hpn h1
        cases b5
        all_goals
          go_enter Tryz.func50, Tryz.ntmps50
          go_wp2_with (go_at_call 57; refine Hhf.out.mono ?_; rintro x w' ⟨rfl, rfl⟩)
          go_ret
          exact ⟨by rw [HR.out, H5.out]; rfl, rfl⟩
      · clear h1
        go_enter Tryz.func50, Tryz.ntmps50
        go_wp2_with fail
        go_ret
        exact ⟨by unfold fineF; rw [H1.out, H2.out, H3.out]; rfl, rfl⟩
    · clear h1
      go_enter Tryz.func50, Tryz.ntmps50
      go_wp2_with fail
      go_ret
      exact ⟨by unfold fineF; rw [H1.out, H2.out]; rfl, rfl⟩
  · clear h1
    go_enter Tryz.func50, Tryz.ntmps50
    go_wp2_with fail
    go_ret
    exact ⟨by unfold fineF; rw [H1.out]; rfl, rfl⟩
-- 1.75, a time of which the law tells
def T175 : Nat := 4610560118520545280
theorem unix_175 : UnixOk T175 := fun _ _ _ _ => ⟨1, by kernel_rfl⟩
theorem unixF_175 : unixF T175 = 1 := by kernel_rfl
theorem fine_175 : FineOk T175 := fun _ _ _ => ⟨4651092515166879744, T175, by kernel_rfl, by kernel_rfl, by kernel_rfl⟩
theorem fineF_175 : fineF T175 = T175 := by kernel_rfl
theorem fromUnix_1 : fromUnixF 1 = 4607182418800017408 := by kernel_rfl
end Go.Proofs.YtpghionmmlidnaaGreatDoor.Walks
