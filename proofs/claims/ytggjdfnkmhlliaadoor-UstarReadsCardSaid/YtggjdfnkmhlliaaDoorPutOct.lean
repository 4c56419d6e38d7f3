/- Contract of num.PutOctal. -/
import Derived.Test.YtggjdfnkmhlliaaDoorOct
namespace Go.Proofs.YtggjdfnkmhlliaaDoor.Walks
open Go Go.RowKit Go.Proofs.YtggjdfnkmhlliaaDoor.Aid Go.Proofs.YtggjdfnkmhlliaaDoor.Own Go.Proofs.YtggjdfnkmhlliaaDoorW.PrintWords

/-- The j lowest digits of x to the base b, the highest first. -/
def low (b z : Nat) : Nat → Nat → Str
  | 0, _ => []
  | j + 1, x => UInt8.ofNat (z + x / b ^ j % b) :: low b z j x
theorem low_len (b z j x : Nat) : (low b z j x).length = j := by
  induction j with
  | zero => rfl
  | succ j ih => rw [low, List.length_cons, ih]
theorem toNat_of {n : Nat} (h : n < 256) : (UInt8.ofNat n).toNat = n := by
  simp only [UInt8.toNat_ofNat']
  omega
theorem numB_low {b z : Nat} (hb : 0 < b) (hz : z + b ≤ 256) (j x : Nat) : numB b z (low b z j x) = x % b ^ j := by
  induction j with
  | zero => simp [low, numB, Nat.mod_one]
  | succ j ih =>
    have hm := Nat.mod_lt (x / b ^ j) hb
    have e : low b z (j + 1) x = [UInt8.ofNat (z + x / b ^ j % b)] ++ low b z j x := rfl
    rw [e, numB_append, ih, low_len]
    have e2 : numB b z [UInt8.ofNat (z + x / b ^ j % b)] = x / b ^ j % b := by
      show 0 * b + ((UInt8.ofNat (z + x / b ^ j % b)).toNat - z) = _
      rw [toNat_of (by omega)]; omega
    rw [e2, Nat.pow_succ, Nat.mod_mul, Nat.mul_comm (b ^ j)]
    omega
/-- num.PutOctal's answer. -/
def putOct (v n : Int) : Str × Int :=
  if n < 2 ∨ n > 32 then ([], 1) else if v < 0 ∨ v > 4611686018427387904 then ([], 7)
  else if v.toNat / 8 ^ (n.toNat - 1) = 0 then (low 8 48 (n.toNat - 1) v.toNat ++ [0], 0)
  else if v.toNat / 256 ^ (n.toNat - 1) = 0 then (128 :: low 256 0 (n.toNat - 1) v.toNat, 0) else ([], 7)
theorem set_back {α : Type} {P t : List α} {k : Nat} (h : P.length = k + 1) (d : α) : (P ++ t).set k d = P.take k ++ d :: t := by
  have h1 : P = P.take k ++ [P[k]'(by omega)] := by
    have := List.take_append_getElem (l := P) (i := k) (by omega)
    rw [← h, List.take_length] at this
    exact this.symm
  have h2 : (P.take k).length = k := by rw [List.length_take]; omega
  conv => lhs; rw [h1, List.append_assoc]
  rw [List.set_append_right _ _ (by omega), h2, Nat.sub_self]
  rfl
theorem ints_cons (x : UInt8) (l : Str) : ints (x :: l) = (x.toNat : Int) :: ints l := rfl
theorem ints_append (a b : Str) : ints (a ++ b) = ints a ++ ints b := List.map_append
theorem own_str {base : Nat} {u : World} {g n cap : Nat} {l : Str} (h : Own base u (.slice (some ⟨g, 0, none⟩) n cap) (ints l)) : (convert 22 9 (.slice (some ⟨g, 0, none⟩) n cap)).run Tryd.prog u = .ok (.string (B l)) u := by
  obtain ⟨A, c, e, hR⟩ := h.rd
  injection e with e1 e2 e3
  subst e1 e2 e3
  exact str_u _ hR (ints_len l).symm
theorem and7_u64 (x : Int) : Go.bits .and .u64 x 7 = x % 8 := mask_any stays_u64 (i := 3) (by decide) x
def PutOctPost (v n : Int) (w : World) (x : Ending) (w' : World) : Prop := x = .returned (.tuple #[.string (B (putOct v n).1), .int .i64 (putOct v n).2]) ∧ Only (fun _ => False) w w'
set_option maxRecDepth 100000 in
set_option maxHeartbeats 8000000 in
theorem putOctal_any (v n : Int) (hv1 : -9223372036854775808 ≤ v) (hv2 : v ≤ 9223372036854775807) (hn1 : -9223372036854775808 ≤ n) (hn2 : n ≤ 9223372036854775807) (w : World) : Calls Tryd.prog 31 #[.int .i64 v, .int .i64 n] w (PutOctPost v n w) := by
  by_cases c1 : n < 2
  · have d1 : decide (n < 2) = true := decide_eq_true c1
    have HR := Lib.hid (show putOct v n = ([], 1) by unfold putOct; rw [if_pos (Or.inl c1)])
    clear c1
    go_enter Tryd.func31, Tryd.ntmps31
    go_wp2_with fail
    go_ret2
    exact ⟨by rw [HR.out]; rfl, Only.refl _ _⟩
  have d1 : decide (n < 2) = false := decide_eq_false c1
  by_cases c2 : n > 32
  · have d2 : decide (n > 32) = true := decide_eq_true c2
    have HR := Lib.hid (show putOct v n = ([], 1) by unfold putOct; rw [if_pos (Or.inr c2)])
    clear c1 c2
    go_enter Tryd.func31, Tryd.ntmps31
    go_wp2_with fail
    go_ret2
    exact ⟨by rw [HR.out]; rfl, Only.refl _ _⟩
  have d2 : decide (n > 32) = false := decide_eq_false c2
  by_cases c3 : v < 0
  · have d3 : decide (v < 0) = true := decide_eq_true c3
    have HR := Lib.hid (show putOct v n = ([], 7) by unfold putOct; rw [if_neg (by omega), if_pos (Or.inl c3)])
    clear c1 c2 c3
    go_enter Tryd.func31, Tryd.ntmps31
    go_wp2_with fail
    go_ret2
    exact ⟨by rw [HR.out]; rfl, Only.refl _ _⟩
  have d3 : decide (v < 0) = false := decide_eq_false c3
  by_cases c4 : v > 4611686018427387904
  · have d4 : decide (v > 4611686018427387904) = true := decide_eq_true c4
    have HR := Lib.hid (show putOct v n = ([], 7) by unfold putOct; rw [if_neg (by omega), if_pos (Or.inr c4)])
    clear c1 c2 c3 c4
    go_enter Tryd.func31, Tryd.ntmps31
    go_wp2_with fail
    go_ret2
    exact ⟨by rw [HR.out]; rfl, Only.refl _ _⟩
  have d4 : decide (v > 4611686018427387904) = false := decide_eq_false c4
  obtain ⟨x, rfl⟩ : ∃ x : Nat, v = x := ⟨v.toNat, by omega⟩
  obtain ⟨m, rfl⟩ : ∃ m : Nat, n = (m + 2 : Nat) := ⟨n.toNat - 2, by omega⟩
  have HR := Lib.hid (show putOct x (m + 2 : Nat) = if x / 8 ^ (m + 1) = 0 then (low 8 48 (m + 1) x ++ [0], 0) else if x / 256 ^ (m + 1) = 0 then (128 :: low 256 0 (m + 1) x, 0) else ([], 7) by
    unfold putOct; rw [if_neg (by omega), if_neg (by omega)]; rfl)
  have b1 : (x : Int) ≤ 4611686018427387904 := by omega
  have b2 : m ≤ 30 := by omega
  clear c1 c2 c3 c4 hv1 hv2 hn1 hn2
  have z1 : IntKind.u64.wrap (x : Int) = (x : Int) := u64_in (by omega) (by omega)
  go_enter Tryd.func31, Tryd.ntmps31
  go_wp2_with (first
    | (with_reducible refine gate 25 rfl ?_
       refine own_make (base := w.heap.size) (w0 := w) rfl rfl (.tmp 24) rfl (m + 2) rfl (Below.refl _ _) (Nat.le_refl _) (by omega) ?_
       intro v1 w1 hV1 hB1
       obtain ⟨g, cap, rfl, hg⟩ := hV1.form (by rw [List.length_replicate]; omega)
       rw [List.length_replicate] at hV1
       replace hV1 := Lib.hid hV1
       replace hB1 := Lib.hid hB1
       replace hg := Lib.hid hg))
  go_loopw [7, 8] (fun v7 v8 u => ∃ (k q : Nat) (P : List Int), v7 = .int .u64 (q : Int) ∧ v8 = .int .i64 ((k : Int) - 1) ∧ k ≤ m + 1 ∧ q ≤ x ∧ P.length = k ∧ Hid (q = x / 8 ^ (m + 1 - k)) ∧ Hid (Own w.heap.size u (.slice (some ⟨g, 0, none⟩) (m + 2) cap) (P ++ ints (low 8 48 (m + 1 - k) x ++ [0]))) ∧ Hid (Below w.heap.size w u)) (fun _ i _ => (intOf i + 1).toNat)
  case atStart => 
    refine ⟨m + 1, x, List.replicate (m + 1) 0, rfl, congrArg (Value.int .i64) (by omega), Nat.le_refl _, Nat.le_refl _, by simp, Lib.hid (by simp), Lib.hid ?_, hB1⟩
    have := hV1.out
    rw [List.replicate_succ'] at this
    rw [Nat.sub_self]; exact this
  case round =>
    clear hV1 hB1
    obtain ⟨k, q, P, rfl, rfl, hk, hq, hP, HQ, HO, HB⟩ := hrel
    cases k with
    | succ k =>
      have d5 : decide ((k : Int) ≥ 0) = true := decide_eq_true (by omega)
      have c0 := HO.out.cell (j := k) (by simp; omega)
      have f0 := HO.out.frozen (j := k) (by omega)
      obtain ⟨y, hy⟩ : ∃ y, (P ++ ints (low 8 48 (m + 1 - (k + 1)) x ++ [0])).getD k 0 = y := ⟨_, rfl⟩
      rw [hy] at c0
      have HA := Lib.hid (and7_u64 (q : Int))
      have HP := Lib.hid hP
      clear hy hP
      go_wp2_with fail
      rw [HA.out]
      refine ⟨⟨k, q / 8, P.take k, by simp, rfl, by omega, Nat.le_trans (Nat.div_le_self _ _) hq, by rw [List.length_take]; have := HP.out; omega, Lib.hid ?_, Lib.hid ?_, Lib.hid (HB.out.setCell hg.out _)⟩, by simp [intOf]⟩
      · rw [HQ.out, Nat.div_div_eq_div_mul, ← Nat.pow_succ, show m + 1 - k = m + 1 - (k + 1) + 1 by omega]
      · have h9 := Own.putn HO.out k (48 + (q : Int) % 8)
        rw [set_back HP.out] at h9
        rw [show (48 + (q : Int) % 8) % 256 = 48 + (q : Int) % 8 by omega, show m + 1 - k = m + 1 - (k + 1) + 1 by omega]
        have e : ints (low 8 48 (m + 1 - (k + 1) + 1) x ++ [0]) = (48 + (q : Int) % 8) :: ints (low 8 48 (m + 1 - (k + 1)) x ++ [0]) := by
          rw [low, List.cons_append, ints_cons, ← HQ.out, toNat_of (by omega)]; simp
        rw [e]; exact h9
    | zero =>
      have eP := List.eq_nil_of_length_eq_zero hP
      subst eP
      have HO := Lib.hid (show Own w.heap.size wr (.slice (some ⟨g, 0, none⟩) (m + 2) cap) (ints (low 8 48 (m + 1) x ++ [0])) from HO.out)
      have HQ := Lib.hid (show q = x / 8 ^ (m + 1) from HQ.out)
      have hS := own_str HO.out
      have d5 : decide (-1 ≥ (0 : Int)) = false := rfl
      by_cases c5 : q = 0
      · have d6 : ((q : Int) == 0) = true := by rw [c5]; rfl
        have HR2 := Lib.hid (HR.out.trans (if_pos (HQ.out.symm.trans c5)))
        have HON := Lib.hid (Only.of_below (HB.out) (fun _ => False))
        clear c5
        go_wp2_with fail
        go_ret2
        exact ⟨by rw [HR2.out]; rfl, HON.out⟩
      · have d6 : ((q : Int) == 0) = false := beq_eq_false_iff_ne.mpr (by omega)
        have HR2 := Lib.hid (HR.out.trans (if_neg (fun h => c5 (HQ.out.trans h))))
        clear c5 HQ hS
        go_wp2_with fail
        go_loopw [7, 9] (fun v7 v9 u => ∃ (k q : Nat) (P : List Int), v7 = .int .u64 (q : Int) ∧ v9 = .int .i64 (k : Int) ∧ k ≤ m + 1 ∧ q ≤ x ∧ P.length = k + 1 ∧ Hid (q = x / 256 ^ (m + 1 - k)) ∧ Hid (Own w.heap.size u (.slice (some ⟨g, 0, none⟩) (m + 2) cap) (P ++ ints (low 256 0 (m + 1 - k) x))) ∧ Hid (Below w.heap.size w u)) (fun _ i _ => (intOf i).toNat)
        case atStart =>
          refine ⟨m + 1, x, ints (low 8 48 (m + 1) x ++ [0]), rfl, congrArg (Value.int .i64) (by omega), Nat.le_refl _, Nat.le_refl _, by rw [ints_len, List.length_append, low_len]; rfl, Lib.hid (by simp), Lib.hid ?_, HB⟩
          have := HO.out
          rw [Nat.sub_self, show ints (low 256 0 0 x) = [] from rfl, List.append_nil]; exact this
        case round =>
          clear HO
          obtain ⟨k, q, P, rfl, rfl, hk, hq, hP, HQ, HO, HB⟩ := hrel
          cases k with
          | succ k =>
            have d5 : decide ((k : Int) + 1 > 0) = true := decide_eq_true (by omega)
            have c0 := HO.out.cell (j := k + 1) (by simp; omega)
            have f0 := HO.out.frozen (j := k + 1) (by omega)
            obtain ⟨y, hy⟩ : ∃ y, (P ++ ints (low 256 0 (m + 1 - (k + 1)) x)).getD (k + 1) 0 = y := ⟨_, rfl⟩
            rw [hy] at c0
            have HP := Lib.hid hP
            clear hy hP
            go_wp2_with fail
            refine ⟨⟨k, q / 256, P.take (k + 1), by simp, by simp, by omega, Nat.le_trans (Nat.div_le_self _ _) hq, by rw [List.length_take]; have := HP.out; omega, Lib.hid ?_, Lib.hid ?_, Lib.hid (HB.out.setCell hg.out _)⟩, by simp [intOf]⟩
            · rw [HQ.out, Nat.div_div_eq_div_mul, ← Nat.pow_succ, show m + 1 - k = m + 1 - (k + 1) + 1 by omega]
            · have h9 := Own.putn HO.out (k + 1) ((q : Int) % 256)
              rw [set_back HP.out] at h9
              rw [show m + 1 - k = m + 1 - (k + 1) + 1 by omega]
              have e : ints (low 256 0 (m + 1 - (k + 1) + 1) x) = ((q : Int) % 256) :: ints (low 256 0 (m + 1 - (k + 1)) x) := by
                rw [low, ints_cons, ← HQ.out, toNat_of (by omega)]; simp
              rw [e]; exact h9
          | zero =>
            have d7 : decide ((0 : Int) > 0) = false := rfl
            have HQ := Lib.hid (show q = x / 256 ^ (m + 1) from HQ.out)
            have c0 := HO.out.cell (j := 0) (by simp; omega)
            have f0 := HO.out.frozen (j := 0) (by omega)
            obtain ⟨y, hy⟩ : ∃ y, (P ++ ints (low 256 0 (m + 1 - 0) x)).getD 0 0 = y := ⟨_, rfl⟩
            rw [hy] at c0
            have h9 := Own.putn HO.out 0 128
            rw [set_back hP] at h9
            have hS := own_str (show Own w.heap.size (wr.setCell ⟨g, 0, none⟩ (.int .u8 128)) (.slice (some ⟨g, 0, none⟩) (m + 2) cap) (ints (128 :: low 256 0 (m + 1) x)) from h9)
            have HON := Lib.hid (Only.of_below (HB.out.setCell (p := ⟨g, 0, none⟩) hg.out (.int .u8 128)) (fun _ => False))
            clear hy h9
            by_cases c5 : q = 0
            · have d6 : decide ((q : Int) > 0) = false := decide_eq_false (by omega)
              have d6' : decide (q > 0) = false := decide_eq_false (by omega)
              have HR3 := Lib.hid (HR2.out.trans (if_pos (HQ.out.symm.trans c5)))
              clear c5
              go_wp2_with fail
              go_ret2
              exact ⟨by rw [HR3.out]; rfl, HON.out⟩
            · have d6 : decide ((q : Int) > 0) = true := decide_eq_true (by omega)
              have d6' : decide (q > 0) = true := decide_eq_true (by omega)
              have HR3 := Lib.hid (HR2.out.trans (if_neg (fun h => c5 (HQ.out.trans h))))
              clear c5
              go_wp2_with fail
              go_ret2
              exact ⟨by rw [HR3.out]; rfl, HON.out⟩
end Go.Proofs.YtggjdfnkmhlliaaDoor.Walks
