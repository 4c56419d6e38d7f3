/- PathCleans answers true. -/
import Derived.Test.YtkfcflnhffmmmaaDoorTold
import Derived.ProofKit
import Derived.OpenShut
import Derived.SizedLaws
namespace Go.Proofs.YtkfcflnhffmmmaaDoor.Walks
open Go Go.RowKit Go.Proofs.YtkfcflnhffmmmaaDoor.Aid Go.Proofs.YtkfcflnhffmmmaaDoor.Pth Go.Proofs.YtkfcflnhffmmmaaDoor.OwnS Go.Proofs.YtkfcflnhffmmmaaDoorW.PrintWords Go.ChangeShapes Go.WideShapes

set_option maxHeartbeats 8000000 in
theorem cleans_any (S : ByteArray) (n : Int) (w : World) (hs : S.size ≤ 300) (hm : MaxLen w) : Calls Tryd.prog 3 #[.string S, .int .i64 n] w (BoolPost true w) := by
  have HM := Lib.hid hm
  have HS := Lib.hid hs
  have d0 : decide ((S.size : Int) > 300) = false := decide_eq_false (by omega)
  have d0' : decide (S.size > 300) = false := decide_eq_false (by omega)
  obtain ⟨k, hk, hk31⟩ : ∃ k : Nat, Go.bits .and .i64 n 31 = (k : Int) ∧ k ≤ 31 := ⟨(n % 32).toNat, by rw [and31_i64]; omega, by omega⟩
  have b0 : (k : Int) ≤ 31 := by omega
  clear hm hs
  go_enter Tryd.func3, Tryd.ntmps3
  go_wp2_with fail
  go_loopw [5, 6] (fun v5 v6 u => ∃ (i : Nat) (T : ByteArray), v5 = .string T ∧ v6 = .int .i64 (i : Int) ∧ i ≤ k ∧ Hid (T.size ≤ (i + 1) * 300) ∧ u = w) (fun _ i _ => k - (intOf i).toNat)
  case atStart => exact ⟨0, S, rfl, rfl, by omega, Lib.hid (by have := HS.out; omega), rfl⟩
  case round =>
    obtain ⟨i, T, rfl, rfl, hi, HT, rfl⟩ := hrel
    by_cases c1 : i < k
    · have d1 : decide ((i : Int) < (k : Int)) = true := decide_eq_true (by omega)
      have d1' : decide (i < k) = true := decide_eq_true c1
      have b1 : (i : Int) ≤ 31 := by omega
      have s1 : ¬ (T.size + S.size > 9223372036854775807) := by have := HT.out; have := HS.out; omega
      have HT2 := Lib.hid (show (T ++ S).size ≤ (i + 1 + 1) * 300 by rw [ByteArray.size_append]; have := HT.out; have := HS.out; omega)
      go_wp2_with fail
      exact ⟨⟨i + 1, _, rfl, by simp, by omega, HT2, by trivial⟩, by simp [intOf]; omega⟩
    · have d1 : decide ((i : Int) < (k : Int)) = false := decide_eq_false (by omega)
      have d1' : decide (i < k) = false := decide_eq_false c1
      have HTs := Lib.hid (show T.size ≤ 500000 by have := HT.out; have h31 : i ≤ 31 := (by omega); have : (i + 1) * 300 ≤ 32 * 300 := Nat.mul_le_mul_right _ (by omega); omega)
      clear HT
      go_wp2_with fail
      refine (clean_any T _ HTs.out HM.out).mono ?_
      rintro x w1 ⟨rfl, h1⟩
      have H1 := Lib.hid h1
      clear h1
      go_wp2_with fail
      refine (rclean_any T w1 HTs.out).mono ?_
      rintro x w2 ⟨rfl, h2⟩
      have H2 := Lib.hid (H1.out.trans' h2)
      clear h2 H1
      obtain ⟨cs, hcs⟩ : ∃ cs, cleanS T = cs := ⟨_, rfl⟩
      obtain ⟨cb, hcb⟩ : ∃ cb, cleanB T = cb := ⟨_, rfl⟩
      rw [hcs, hcb]
      have e1 : (cs.toList == cs.toList) = true := beq_self_eq_true _
      have e2 : (cb == cb) = true := beq_self_eq_true _
      clear hcs hcb
      go_wp2_with fail
      refine (told_any w2 (HM.out.only H2.out)).mono ?_
      rintro x w3 ⟨rfl, h3⟩
      have H3 := Lib.hid (H2.out.trans' h3)
      clear h3 H2
      go_wp2_with fail
      refine (right_any T w3 HTs.out (HM.out.only H3.out)).mono ?_
      rintro x w4 ⟨rfl, h4⟩
      have H4 := Lib.hid (H3.out.trans' h4)
      clear h4 H3
      go_wp2_with fail
      refine (rright_any T w4 HTs.out).mono ?_
      rintro x w5 ⟨rfl, h5⟩
      have H5 := Lib.hid (H4.out.trans' h5)
      clear h5 H4
      obtain ⟨rb, hrb⟩ : ∃ rb, rightL T.data.toList = rb := ⟨_, rfl⟩
      rw [hrb]
      have e3 : (rb == rb) = true := beq_self_eq_true _
      clear hrb
      go_wp2_with fail
      refine (split_right T w5 HTs.out (HM.out.only H5.out)).mono ?_
      rintro x w6 ⟨A, c, rfl, _, hR, h6⟩
      have H6 := Lib.hid (H5.out.trans' h6)
      have HR := Lib.hid hR
      clear h6 hR H5
      go_wp2_with fail
      refine (rsplit_right T w6 HTs.out).mono ?_
      rintro x w7 ⟨A2, c2, rfl, _, hR2, h7⟩
      have H7 := Lib.hid (H6.out.trans' h7)
      have HR1 := Lib.hid (HR.out.only h7)
      have HR2 := Lib.hid hR2
      clear h7 hR2 H6 HR
      have HSl := Lib.hid (splitL_le T.data.toList)
      go_wp2_with fail
      refine (texts_any c c2 rfl rfl HR1.out HR2.out (by have := HSl.out; have e : T.data.toList.length = T.size := rfl; have := HTs.out; omega) rfl).mono ?_
      rintro x w8 ⟨rfl, m, rfl⟩
      have H8 := Lib.hid (H7.out.drewN m)
      go_wp2_with fail
      refine (last_any T _ HTs.out (HM.out.only H8.out)).mono ?_
      rintro x w9 ⟨rfl, h9⟩
      have H9 := Lib.hid (H8.out.trans' h9)
      clear h9 H8
      go_wp2_with fail
      refine (rlast_any T w9 HTs.out).mono ?_
      rintro x w10 ⟨rfl, h10⟩
      have H10 := Lib.hid (H9.out.trans' h10)
      clear h10 H9
      obtain ⟨ls, hls⟩ : ∃ ls, B (lastL T.data.toList) = ls := ⟨_, rfl⟩
      rw [hls]
      have e4 : (ls.toList == ls.toList) = true := beq_self_eq_true _
      clear hls
      go_wp2_with fail
      go_ret
      exact ⟨rfl, H10.out⟩
theorem lawCleans {H : Type} {enc : TypeId × Value → H} {W : World} {base : Nat} {v0 v1 : Value} {d0 d1 : DataW H} {p0 p1 : List MemPlace} {ts : List TypeId} {ds : List (DataW H)} (hm : MaxLen W)
    (ov0 : Value.okWide Tryd.prog W .any base 9 v0) (k0 : DataW.Trod enc Tryd.prog W 0 (fun _ => true) true 9 v0 d0 p0)
    (ov1 : Value.okWide Tryd.prog W .any base 3 v1) (k1 : DataW.Trod enc Tryd.prog W 0 (fun _ => true) true 3 v1 d1 p1)
    (_ : (DataW.weightsEach Tryd.prog ts ds).all (· ≤ reachBytes) = true) :
    Calls Tryd.prog 3 #[v0, v1] W fun e w' => e = .returned (.bool true) ∧ Below W.heap.size W w' := by
  obtain ⟨S, rfl, _, _, wS⟩ := Go.ChangeMaps.open_string Tryd.underlying9 ov0 k0
  obtain ⟨n, rfl, _, _, _⟩ := open_int Tryd.underlying3 ov1 k1
  by_cases hs : S.size ≤ 300
  · exact (cleans_any S n W hs hm).mono fun x w' h => ⟨h.1, h.2.none⟩
  · have h1 : decide ((S.size : Int) > 300) = true := decide_eq_true (by omega)
    have h1' : decide (S.size > 300) = true := decide_eq_true (by omega)
    have HM := Lib.hid hm
    clear k0 k1 ov0 ov1 hm
    go_enter Tryd.func3, Tryd.ntmps3
    go_wp2_with fail
    refine (told_any _ HM.out).mono ?_
    rintro x w4 ⟨rfl, hb4⟩
    go_wp2_with fail
    go_ret
    exact ⟨rfl, hb4.none⟩
end Go.Proofs.YtkfcflnhffmmmaaDoor.Walks
