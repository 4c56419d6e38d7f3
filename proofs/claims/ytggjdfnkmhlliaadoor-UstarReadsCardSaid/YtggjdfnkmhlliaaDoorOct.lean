/- Contract of num.Octal. -/
import Derived.Test.YtggjdfnkmhlliaaDoorWide
namespace Go.Proofs.YtggjdfnkmhlliaaDoor.Walks
open Go Go.RowKit Go.Proofs.YtggjdfnkmhlliaaDoor.Aid Go.Proofs.YtggjdfnkmhlliaaDoor.Own Go.Proofs.YtggjdfnkmhlliaaDoorW.PrintWords

def isSp (x : UInt8) : Bool := decide (x = 32)
def isOc (x : UInt8) : Bool := decide (48 ≤ x.toNat ∧ x.toNat ≤ 55)
def isEnd (x : UInt8) : Bool := decide (x = 32 ∨ x = 0)
def octL (l : Str) : Int × Int :=
  match l with
  | [] => (0, 2)
  | c :: r => if 128 ≤ c.toNat then wideL (c :: r) else if (((c :: r).dropWhile isSp).dropWhile isOc).all isEnd then ranged (numB 8 48 (((c :: r).dropWhile isSp).takeWhile isOc)) else (0, 2)
theorem oct_low {c : UInt8} {r : Str} (h : ¬ 128 ≤ c.toNat) : octL (c :: r) = if (((c :: r).dropWhile isSp).dropWhile isOc).all isEnd then ranged (numB 8 48 (((c :: r).dropWhile isSp).takeWhile isOc)) else (0, 2) := by
  show (if 128 ≤ c.toNat then _ else _) = _
  rw [if_neg h]
/-- What the digits' loop holds. -/
def OSt (done : Str) (v : Int) (far : Bool) : Prop := (far = false ∧ v = (numB 8 48 done : Int) ∧ v ≤ 4611686018427387904 + 7) ∨ (far = true ∧ MOST < numB 8 48 done)
theorem ost_far {done : Str} {v : Int} {x : UInt8} (h : OSt done v true) (v' : Int) : OSt (done ++ [x]) v' true := by
  rcases h with ⟨h, _⟩ | ⟨_, h⟩
  · cases h
  · refine Or.inr ⟨rfl, ?_⟩
    rw [numB_snoc]; omega
theorem ost_over {done : Str} {v : Int} {x : UInt8} (h : OSt done v false) (hv : v > 576460752303423488) (v' : Int) : OSt (done ++ [x]) v' true := by
  rcases h with ⟨_, h, _⟩ | ⟨h, _⟩
  · refine Or.inr ⟨rfl, ?_⟩
    rw [numB_snoc]; unfold MOST; omega
  · cases h
theorem ost_next {done : Str} {v : Int} {x : UInt8} (h : OSt done v false) (hv : ¬ v > 576460752303423488) (hx : isOc x = true) : OSt (done ++ [x]) (v * 8 + ((x.toNat - 48 : Nat) : Int)) false := by
  have hx := of_decide_eq_true hx
  rcases h with ⟨_, h, _⟩ | ⟨h, _⟩
  · refine Or.inl ⟨rfl, ?_, by omega⟩
    rw [numB_snoc]; push_cast; omega
  · cases h
theorem ost_zero : OSt [] 0 false := Or.inl ⟨rfl, rfl, by decide⟩
theorem ost_nn {done : Str} {v : Int} (h : OSt done v false) : 0 ≤ v := by
  rcases h with ⟨_, h, _⟩ | ⟨h, _⟩
  · omega
  · cases h
theorem ost_end {done : Str} {v : Int} {far : Bool} (h : OSt done v far) : ranged (numB 8 48 done) = if far = true ∨ v > 4611686018427387904 then (0, 7) else (v, 0) := by
  unfold ranged
  rcases h with ⟨rfl, h, _⟩ | ⟨rfl, h⟩
  · by_cases c : v > 4611686018427387904
    · have h2 : ¬ numB 8 48 done ≤ MOST := by show ¬ numB 8 48 done ≤ 4611686018427387904; omega
      rw [if_pos (Or.inr c), if_neg h2]
    · have h2 : numB 8 48 done ≤ MOST := by show numB 8 48 done ≤ 4611686018427387904; omega
      have h3 : ¬ (false = true ∨ v > 4611686018427387904) := by rintro (h | h); cases h; exact c h
      rw [if_neg h3, if_pos h2, h]
  · rw [if_pos (Or.inl rfl), if_neg (by omega)]
theorem dropWhile_on {p : UInt8 → Bool} {l : Str} {i : Nat} {x : UInt8} (h : i < l.length) (hx : l.getD i 0 = x) (hp : p x = true) : (l.drop i).dropWhile p = (l.drop (i + 1)).dropWhile p := by
  rw [drop_at (d := 0) h, hx, List.dropWhile_cons_of_pos hp]
theorem dropWhile_off {p : UInt8 → Bool} {l : Str} {i : Nat} {x : UInt8} (h : i < l.length) (hx : l.getD i 0 = x) (hp : p x = false) : (l.drop i).dropWhile p = l.drop i := by
  rw [drop_at (d := 0) h, hx, List.dropWhile_cons_of_neg (by rw [hp]; exact Bool.false_ne_true)]
theorem takeWhile_on {p : UInt8 → Bool} {l : Str} {i : Nat} {x : UInt8} (h : i < l.length) (hx : l.getD i 0 = x) (hp : p x = true) : (l.drop i).takeWhile p = x :: (l.drop (i + 1)).takeWhile p := by
  rw [drop_at (d := 0) h, hx, List.takeWhile_cons_of_pos hp]
theorem takeWhile_off {p : UInt8 → Bool} {l : Str} {i : Nat} {x : UInt8} (h : i < l.length) (hx : l.getD i 0 = x) (hp : p x = false) : (l.drop i).takeWhile p = [] := by
  rw [drop_at (d := 0) h, hx, List.takeWhile_cons_of_neg (by rw [hp]; exact Bool.false_ne_true)]
theorem all_at {p : UInt8 → Bool} {l : Str} {i : Nat} {x : UInt8} (h : i < l.length) (hx : l.getD i 0 = x) : (l.drop i).all p = (p x && (l.drop (i + 1)).all p) := by
  rw [drop_at (d := 0) h, hx, List.all_cons]
theorem drop_end {α : Type} {l : List α} {n : Nat} (h : l.length = n) : l.drop n = [] := List.drop_eq_nil_of_le (by omega)
/-- The digits' loop: m is what stands behind the spaces. -/
def OAt (l m : Str) (i : Nat) (v : Int) (far : Bool) : Prop := ∃ done, m.takeWhile isOc = done ++ (l.drop i).takeWhile isOc ∧ m.dropWhile isOc = (l.drop i).dropWhile isOc ∧ OSt done v far
theorem oat_next {l m : Str} {i : Nat} {v v' : Int} {far far' : Bool} {x : UInt8} (h : OAt l m i v far) (hi : i < l.length) (hx : l.getD i 0 = x) (hp : isOc x = true) (hs : ∀ {done : Str}, OSt done v far → OSt (done ++ [x]) v' far') : OAt l m (i + 1) v' far' := by
  obtain ⟨done, h1, h2, h3⟩ := h
  refine ⟨done ++ [x], ?_, ?_, hs h3⟩
  · rw [h1, takeWhile_on hi hx hp, List.append_assoc]; rfl
  · rw [h2, dropWhile_on hi hx hp]
def OEnd (l m : Str) (i : Nat) (v : Int) (far : Bool) : Prop := m.dropWhile isOc = l.drop i ∧ (ranged (numB 8 48 (m.takeWhile isOc)) = if far = true ∨ v > 4611686018427387904 then (0, 7) else (v, 0)) ∧ (far = false → 0 ≤ v)
theorem oat_end {l m : Str} {i : Nat} {v : Int} {far : Bool} (h : OAt l m i v far) (hx : l.length = i ∨ ∃ x, i < l.length ∧ l.getD i 0 = x ∧ isOc x = false) : OEnd l m i v far := by
  obtain ⟨done, h1, h2, h3⟩ := h
  have e : (l.drop i).takeWhile isOc = [] ∧ (l.drop i).dropWhile isOc = l.drop i := by
    rcases hx with h | ⟨x, ha, hb, hc⟩
    · rw [drop_end h]; exact ⟨rfl, rfl⟩
    · exact ⟨takeWhile_off ha hb hc, dropWhile_off ha hb hc⟩
  rw [e.1, List.append_nil] at h1
  rw [e.2] at h2
  exact ⟨h2, by rw [h1, ost_end h3], fun e => ost_nn (e ▸ h3)⟩
set_option maxRecDepth 100000 in
set_option maxHeartbeats 8000000 in
theorem octal_any (S : ByteArray) (w : World) (hs : S.size ≤ 1000000) : Calls Tryd.prog 24 #[.string S] w fun e w' => e = .returned (.tuple #[.int .i64 (octL S.data.toList).1, .int .i64 (octL S.data.toList).2]) ∧ w' = w := by
  have HS := Lib.hid hs
  have b0 : (S.size : Int) ≤ 1000000 := by omega
  have HE := Lib.hid (show S.data.toList.length = S.size from rfl)
  clear hs
  cases hl : S.data.toList with
  | nil =>
    have e1 : S.toList.isEmpty = true := by rw [Lib.toList_data, hl]; rfl
    clear hl
    go_enter Tryd.func24, Tryd.ntmps24
    go_wp2_with fail
    go_ret2
    exact ⟨rfl, rfl⟩
  | cons c r =>
    have e1 : S.toList.isEmpty = false := by rw [Lib.toList_data, hl]; rfl
    have hpos : 0 < S.size := by show 0 < S.data.toList.length; rw [hl]; simp
    have hx := index_at (S := S) (i := 0) hpos
    rw [hl, List.getD_cons_zero] at hx
    have HL := Lib.hid hl
    by_cases h128 : 128 ≤ c.toNat
    · have d1 : decide ((c.toNat : Int) ≥ 128) = true := decide_eq_true (by omega)
      have d1' : decide (128 ≤ c.toNat) = true := decide_eq_true h128
      have HW := Lib.hid (show octL (c :: r) = wideL S.data.toList by rw [hl]; show (if 128 ≤ c.toNat then _ else _) = _; rw [if_pos h128])
      have HN := Lib.hid (show S.data.toList ≠ [] by rw [hl]; simp)
      clear hl h128
      go_enter Tryd.func24, Tryd.ntmps24
      go_wp2_with fail
      refine (wide_any S w HS.out HN.out).mono ?_
      rintro x w1 ⟨rfl, rfl⟩
      obtain ⟨q, hq⟩ : ∃ q, wideL S.data.toList = q := ⟨_, rfl⟩
      rw [hq] at HW ⊢
      clear hq
      go_wp2_with fail
      go_ret2
      exact ⟨by rw [HW.out]; rfl, rfl⟩
    have d1 : decide ((c.toNat : Int) ≥ 128) = false := decide_eq_false (by omega)
    have d1' : decide (128 ≤ c.toNat) = false := decide_eq_false h128
    have HO := Lib.hid (oct_low (r := r) h128)
    obtain ⟨l, hll⟩ : ∃ l, c :: r = l := ⟨_, rfl⟩
    rw [hll] at HO HL ⊢
    rw [HL.out] at HE
    clear hl h128 hll
    go_enter Tryd.func24, Tryd.ntmps24
    go_upto_block 0 with (fail)
    clear hx
    go_cut [4] from 16 to 27 (fun v4 wc => ∃ i : Nat, v4 = .int .i64 (i : Int) ∧ i ≤ S.size ∧ Hid (l.dropWhile isSp = l.drop i) ∧ w = wc)
    case first =>
      go_wp2_with fail
      go_loopw [4] (fun v4 u => ∃ i : Nat, v4 = .int .i64 (i : Int) ∧ i ≤ S.size ∧ Hid (l.dropWhile isSp = (l.drop i).dropWhile isSp) ∧ w = u) (fun i _ => S.size - (intOf i).toNat)
      case atStart => exact ⟨0, rfl, by omega, Lib.hid rfl, rfl⟩
      case round =>
        obtain ⟨i, rfl, hi, HI, rfl⟩ := hrel
        by_cases c1 : i < S.size
        · have d2 : decide ((i : Int) < (S.size : Int)) = true := decide_eq_true (by omega)
          have d2' : decide (i < S.size) = true := decide_eq_true c1
          have d3 : (i : Int) < (S.size : Int) := by omega
          have hx := index_at c1
          rw [HL.out] at hx
          have HC := Lib.hid c1
          obtain ⟨x, hxx⟩ : ∃ x, l.getD i 0 = x := ⟨_, rfl⟩
          rw [hxx] at hx
          have HX := Lib.hid hxx
          have b1 : (i : Int) ≤ 1000000 := by omega
          clear hxx c1
          have t1 := byte_eq (x := x) (y := 32) 32 rfl
          by_cases c2 : x = 32
          · rw [decide_eq_true c2] at t1
            have HI2 := Lib.hid (HI.out.trans (dropWhile_on (by rw [HE.out]; exact HC.out) HX.out (decide_eq_true c2)))
            clear c2
            go_wp2_with fail
            exact ⟨⟨i + 1, by simp, by omega, HI2, by trivial⟩, by simp [intOf]; omega⟩
          · rw [decide_eq_false c2] at t1
            have HI2 := Lib.hid (HI.out.trans (dropWhile_off (by rw [HE.out]; exact HC.out) HX.out (decide_eq_false c2)))
            clear c2
            go_wp2_with fail
            go_meet
            case rel => exact ⟨i, rfl, hi, HI2, by trivial⟩
        · have d2 : decide ((i : Int) < (S.size : Int)) = false := decide_eq_false (by omega)
          have d2' : decide (i < S.size) = false := decide_eq_false c1
          obtain rfl : i = S.size := by omega
          have HI2 := Lib.hid (show l.dropWhile isSp = l.drop S.size by rw [HI.out, drop_end HE.out]; rfl)
          clear c1
          go_wp2_with fail
          go_meet
          case rel => exact ⟨S.size, rfl, hi, HI2, by trivial⟩
    case rest =>
      obtain ⟨i0, rfl, hi0, HI, rfl⟩ := hcut
      obtain ⟨m, hm⟩ : ∃ m, l.dropWhile isSp = m := ⟨_, rfl⟩
      rw [hm] at HI HO
      have H0 := Lib.hid (show OAt l m i0 0 false from ⟨[], by rw [HI.out]; rfl, by rw [HI.out], ost_zero⟩)
      clear HI hm
      go_upto_block 2 with (fail)
      go_cut [4, 5, 6] from 28 to 58 (fun v4 v5 v6 wc => ∃ (i : Nat) (v : Int) (far : Bool), v4 = .int .i64 (i : Int) ∧ v5 = .int .u64 v ∧ v6 = .bool far ∧ i ≤ S.size ∧ Hid (OEnd l m i v far) ∧ w = wc)
      case first =>
        go_wp2_with fail
        go_loopw [4, 5, 6] (fun v4 v5 v6 u => ∃ (i : Nat) (v : Int) (far : Bool), v4 = .int .i64 (i : Int) ∧ v5 = .int .u64 v ∧ v6 = .bool far ∧ i ≤ S.size ∧ Hid (OAt l m i v far) ∧ w = u) (fun i _ _ _ => S.size - (intOf i).toNat)
        case atStart => exact ⟨i0, 0, false, rfl, rfl, rfl, hi0, H0, rfl⟩
        case round =>
          obtain ⟨i, v, far, rfl, rfl, rfl, hi, HI, rfl⟩ := hrel
          by_cases c1 : i < S.size
          · have d2 : decide ((i : Int) < (S.size : Int)) = true := decide_eq_true (by omega)
            have d2' : decide (i < S.size) = true := decide_eq_true c1
            have d3 : (i : Int) < (S.size : Int) := by omega
            have hx := index_at c1
            rw [HL.out] at hx
            have HC := Lib.hid c1
            obtain ⟨x, hxx⟩ : ∃ x, l.getD i 0 = x := ⟨_, rfl⟩
            rw [hxx] at hx
            have HX := Lib.hid hxx
            have b1 : (i : Int) ≤ 1000000 := by omega
            clear hxx c1
            by_cases c2 : 48 ≤ x.toNat
            · have t1 : decide ((x.toNat : Int) ≥ 48) = true := decide_eq_true (by omega)
              have t1' : decide (48 ≤ x.toNat) = true := decide_eq_true c2
              by_cases c3 : x.toNat ≤ 55
              · have t2 : decide ((x.toNat : Int) ≤ 55) = true := decide_eq_true (by omega)
                have t2' : decide (x.toNat ≤ 55) = true := decide_eq_true c3
                have hO : isOc x = true := decide_eq_true ⟨c2, c3⟩
                have t3 : IntKind.u8.wrap ((x.toNat : Int) - 48) = ((x.toNat - 48 : Nat) : Int) := by rw [IntKind.wrap_u8]; omega
                have t4 : IntKind.u64.wrap ((x.toNat - 48 : Nat) : Int) = ((x.toNat - 48 : Nat) : Int) := u64_in (by omega) (by omega)
                obtain ⟨y, hy⟩ : ∃ y, x.toNat - 48 = y := ⟨_, rfl⟩
                rw [hy] at t3 t4
                have hy8 : y < 8 := by omega
                have HY := Lib.hid hy
                have HO := Lib.hid hO
                clear c2 c3 hy hO
                cases far with
                | true =>
                  go_wp2_with fail
                  exact ⟨⟨i + 1, _, true, by simp, rfl, rfl, by omega, Lib.hid (oat_next HI.out (by rw [HE.out]; exact HC.out) HX.out HO.out (fun h => ost_far h _)), by trivial⟩, by simp [intOf]; omega⟩
                | false =>
                  have hv : 0 ≤ v := by obtain ⟨_, _, _, h⟩ := HI.out; exact ost_nn h
                  by_cases c4 : v > 576460752303423488
                  · have t5 : decide (v > 576460752303423488) = true := decide_eq_true c4
                    have HG := Lib.hid c4
                    clear c4
                    go_wp2_with fail
                    exact ⟨⟨i + 1, _, true, by simp, rfl, rfl, by omega, Lib.hid (oat_next HI.out (by rw [HE.out]; exact HC.out) HX.out HO.out (fun h => ost_over h HG.out _)), by trivial⟩, by simp [intOf]; omega⟩
                  · have t5 : decide (v > 576460752303423488) = false := decide_eq_false c4
                    have HG := Lib.hid c4
                    have t6 : IntKind.u64.wrap (v * 8) = v * 8 := u64_in (by omega) (by omega)
                    have HR := Lib.hid (or_u64 3 (v := v) (x := (y : Int)) (by omega) (by omega) (by omega) (by omega) (by omega))
                    clear c4
                    go_wp2_with fail
                    exact ⟨⟨i + 1, v * 8 + y, false, by simp, by rw [show (v * 8) = v * 2 ^ 3 from rfl, HR.out], rfl, by omega, Lib.hid (oat_next HI.out (by rw [HE.out]; exact HC.out) HX.out HO.out (fun h => by rw [← HY.out]; exact ost_next h HG.out HO.out)), by trivial⟩, by simp [intOf]; omega⟩
              · have t2 : decide ((x.toNat : Int) ≤ 55) = false := decide_eq_false (by omega)
                have t2' : decide (x.toNat ≤ 55) = false := decide_eq_false c3
                have HI2 := Lib.hid (oat_end HI.out (Or.inr ⟨x, by rw [HE.out]; exact HC.out, HX.out, decide_eq_false (fun h => c3 h.2)⟩))
                clear c2 c3
                go_wp2_with fail
                go_meet
                case rel => exact ⟨i, v, far, rfl, rfl, rfl, hi, HI2, by trivial⟩
            · have t1 : decide ((x.toNat : Int) ≥ 48) = false := decide_eq_false (by omega)
              have t1' : decide (48 ≤ x.toNat) = false := decide_eq_false c2
              have HI2 := Lib.hid (oat_end HI.out (Or.inr ⟨x, by rw [HE.out]; exact HC.out, HX.out, decide_eq_false (fun h => c2 h.1)⟩))
              clear c2
              go_wp2_with fail
              go_meet
              case rel => exact ⟨i, v, far, rfl, rfl, rfl, hi, HI2, by trivial⟩
          · have d2 : decide ((i : Int) < (S.size : Int)) = false := decide_eq_false (by omega)
            have d2' : decide (i < S.size) = false := decide_eq_false c1
            obtain rfl : i = S.size := by omega
            have HI2 := Lib.hid (oat_end HI.out (Or.inl HE.out))
            clear c1
            go_wp2_with fail
            go_meet
            case rel => exact ⟨S.size, v, far, rfl, rfl, rfl, hi, HI2, by trivial⟩
      case rest =>
        obtain ⟨i1, v, far, rfl, rfl, rfl, hi1, HI, rfl⟩ := hcut
        obtain ⟨t, ht⟩ : ∃ t, m.dropWhile isOc = t := ⟨_, rfl⟩
        have h1 := HI.out.1
        rw [ht] at h1 HO
        have h2 := HI.out.2.1
        have hv := HI.out.2.2
        rw [h2] at HO
        have HV := Lib.hid hv
        clear HI h2 ht hv
        have HI := Lib.hid (show t.all isEnd = (l.drop i1).all isEnd by rw [h1])
        clear h1
        go_wp2_with fail
        go_loopw [4] (fun v4 u => ∃ i : Nat, v4 = .int .i64 (i : Int) ∧ i ≤ S.size ∧ Hid (t.all isEnd = (l.drop i).all isEnd) ∧ w = u) (fun i _ => S.size - (intOf i).toNat)
        case atStart => exact ⟨i1, rfl, hi1, HI, rfl⟩
        case round =>
          obtain ⟨i, rfl, hi, HI, rfl⟩ := hrel
          by_cases c1 : i < S.size
          · have d2 : decide ((i : Int) < (S.size : Int)) = true := decide_eq_true (by omega)
            have d2' : decide (i < S.size) = true := decide_eq_true c1
            have d3 : (i : Int) < (S.size : Int) := by omega
            have hx := index_at c1
            rw [HL.out] at hx
            obtain ⟨x, hxx⟩ : ∃ x, l.getD i 0 = x := ⟨_, rfl⟩
            rw [hxx] at hx
            have HA := Lib.hid (HI.out.trans (all_at (by rw [HE.out]; exact c1) hxx))
            have b1 : (i : Int) ≤ 1000000 := by omega
            clear hxx c1
            have t1 : ((x.toNat : Int) != 32) = !decide (x = 32) := by show (!((x.toNat : Int) == 32)) = _; rw [byte_eq (x := x) (y := 32) 32 rfl]
            have t2 : ((x.toNat : Int) != 0) = !decide (x = 0) := by show (!((x.toNat : Int) == 0)) = _; rw [byte_eq (x := x) (y := 0) 0 rfl]
            by_cases c2 : isEnd x = true
            · have HA2 := Lib.hid (show t.all isEnd = (l.drop (i + 1)).all isEnd by rw [HA.out, c2, Bool.true_and])
              have c2 : x = 32 ∨ x = 0 := of_decide_eq_true c2
              by_cases c3 : x = 32
              · rw [decide_eq_true c3] at t1
                clear c3 c2 t2
                go_wp2_with fail
                exact ⟨⟨i + 1, by simp, by omega, HA2, by trivial⟩, by simp [intOf]; omega⟩
              · rw [decide_eq_false c3] at t1
                rw [decide_eq_true (c2.resolve_left c3)] at t2
                clear c3 c2
                go_wp2_with fail
                exact ⟨⟨i + 1, by simp, by omega, HA2, by trivial⟩, by simp [intOf]; omega⟩
            · have c2 := Bool.eq_false_iff.mpr c2
              have HA2 := Lib.hid (show t.all isEnd = false by rw [HA.out, c2, Bool.false_and])
              rw [decide_eq_false (fun e => of_decide_eq_false c2 (Or.inl e))] at t1
              rw [decide_eq_false (fun e => of_decide_eq_false c2 (Or.inr e))] at t2
              clear c2
              go_wp2_with fail
              go_ret2
              exact ⟨by rw [HO.out, HA2.out]; rfl, rfl⟩
          · have d2 : decide ((i : Int) < (S.size : Int)) = false := decide_eq_false (by omega)
            have d2' : decide (i < S.size) = false := decide_eq_false c1
            obtain rfl : i = S.size := by omega
            have HA2 := Lib.hid (show t.all isEnd = true by rw [HI.out, drop_end HE.out]; rfl)
            rw [HA2.out, if_pos rfl] at HO
            clear c1
            cases far with
            | true =>
              go_wp2_with fail
              go_ret2
              exact ⟨by rw [HO.out]; rfl, rfl⟩
            | false =>
              by_cases c2 : v > 4611686018427387904
              · have t1 : decide (v > 4611686018427387904) = true := decide_eq_true c2
                have HO2 := Lib.hid (HO.out.trans (if_pos (Or.inr c2)))
                clear c2
                go_wp2_with fail
                go_ret2
                exact ⟨by rw [HO2.out]; rfl, rfl⟩
              · have t1 : decide (v > 4611686018427387904) = false := decide_eq_false c2
                have HO2 := Lib.hid (HO.out.trans (if_neg (fun h => h.elim (fun h => by cases h) c2)))
                have hv : 0 ≤ v := HV.out rfl
                have w1 : IntKind.i64.wrap v = v := by rw [IntKind.wrap_i64]; omega
                have w2 : wrap64 v = v := wrap64_in (by omega) (by omega)
                clear c2
                go_wp2_with fail
                go_ret2
                exact ⟨by rw [HO2.out]; rfl, rfl⟩
end Go.Proofs.YtggjdfnkmhlliaaDoor.Walks
