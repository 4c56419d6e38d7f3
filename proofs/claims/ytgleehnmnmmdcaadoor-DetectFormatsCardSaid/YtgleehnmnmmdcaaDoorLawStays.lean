/- DetectStays answers true. -/
import Derived.Test.YtgleehnmnmmdcaaDoorLaw1
namespace Go.Proofs.YtgleehnmnmmdcaaDoor.Walks
open Go Go.RowKit Go.Proofs.YtgleehnmnmmdcaaDoor.Aid Go.Proofs.YtgleehnmnmmdcaaDoor.Own Go.ChangeShapes Go.WideShapes

theorem bytes_of {l : List Int} (h : ∀ x ∈ l, (Lit.int .u8 x).wf = true) : Bytes l := fun x hx => u8_b (h x hx)
theorem format_take {w : World} {A : Option Addr} {l : List Int} {c k : Nat} (e : Bool) (hk : k ≤ l.length) (hc : k ≤ c) (hl : l.length ≤ 1000000) (hA : RdK .u8 w A l) (bl : Bytes l) : Calls Tryd.prog 8 #[.slice A k c, .bool e] w (FmtPost (l.take k) e w) := by
  have e1 : (l.take k).length = k := by rw [List.length_take]; omega
  have := format_any (l := l.take k) (c := c) e (by omega) (by omega) (RdK.take hA k) (Bytes.take bl k)
  rwa [e1] at this
theorem cut_at (cut : Int) (n : Nat) (hn : n ≤ 1000000) : ∃ k : Nat, k ≤ n ∧ wrap64 ((IntKind.u64.wrap cut).tmod ((n : Int) + 1)) = (k : Int) := by
  have h0 : 0 ≤ IntKind.u64.wrap cut := by rw [u64_wrap]; omega
  generalize IntKind.u64.wrap cut = x at *
  rw [tmod_pos h0]
  have h1 : 0 ≤ x % ((n : Int) + 1) := Int.emod_nonneg _ (by omega)
  have h2 : x % ((n : Int) + 1) < (n : Int) + 1 := Int.emod_lt_of_pos _ (by omega)
  generalize x % ((n : Int) + 1) = y at *
  refine ⟨y.toNat, by omega, ?_⟩
  rw [wrap64_in (by omega) (by omega)]; omega
set_option maxHeartbeats 4000000 in
theorem stays_any {w : World} {A : Option Addr} {l : List Int} {c : Nat} (cut : Int) (hc : l.length ≤ c) (hl : l.length ≤ 700) (hA : RdK .u8 w A l) (bl : Bytes l) : Calls Tryd.prog 4 #[.slice A l.length c, .int .i64 cut] w (ProbePost true w) := by
  have h1 : decide ((l.length : Int) > 700) = false := decide_eq_false (by omega)
  have HA := Lib.hid hA
  have BL := Lib.hid bl
  have HC := Lib.hid hc
  have HL := Lib.hid hl
  have q1 : (l.length : Int) ≤ 700 := by omega
  clear hA bl hc hl
  go_enter Tryd.func4, Tryd.ntmps4
  go_upto_region 4 with (fail)
  obtain ⟨k, hk, ek⟩ := cut_at cut l.length (by have := HL.out; omega)
  rw [ek]
  clear ek
  have HK := Lib.hid hk
  have q2 : (k : Int) ≤ (l.length : Int) := by omega
  have q3 : (k : Int) ≤ (c : Int) := by have := HC.out; omega
  have q4 : (0 : Int) ≤ (k : Int) := by omega
  clear hk
  obtain ⟨f, hf⟩ : ∃ f, fmtOf (l.take k) false = f := ⟨_, rfl⟩
  obtain ⟨a, e⟩ := f
  have HF := Lib.hid hf
  clear hf
  by_cases he : e = 5
  · subst he
    have hs := stays_short (by rw [HF.out])
    rw [HF.out, List.length_take] at hs
    obtain rfl : a = 0 := hs.2
    have hk5 : k < 512 := by have := HK.out; omega
    have d1 : decide ((k : Int) < 512) = true := decide_eq_true (by omega)
    clear hs
    go_wp2_with fail
    refine (format_take (c := c) false HK.out (by have := HC.out; have := HK.out; omega) (by have := HL.out; omega) HA.out BL.out).mono ?_
    rintro x w1 ⟨rfl, h1⟩
    rw [HF.out]
    have H1 := Lib.hid h1
    clear h1
    go_wp2_with fail
    refine (told_any _).mono ?_
    rintro x w2 ⟨rfl, h2⟩
    have H2 := Lib.hid (H1.out.trans' h2)
    clear h2
    go_wp2_with fail
    go_ret
    exact ⟨rfl, H2.out⟩
  · have d1 : (e == 5) = false := beq_eq_false_iff_ne.mpr he
    have HS := Lib.hid (fun b => stays (l := l) (n := k) b (by rw [HF.out]; exact he))
    clear he
    go_wp2_with fail
    refine (format_take (c := c) false HK.out (by have := HC.out; have := HK.out; omega) (by have := HL.out; omega) HA.out BL.out).mono ?_
    rintro x w1 ⟨rfl, h1⟩
    rw [HF.out]
    have H1 := Lib.hid h1
    clear h1
    go_wp2_with fail
    refine (format_any (c := c) false HC.out (by have := HL.out; omega) (rd_only HA.out H1.out) BL.out).mono ?_
    rintro x w2 ⟨rfl, h2⟩
    rw [HS.out, HF.out]
    have H2 := Lib.hid (H1.out.trans' h2)
    clear h2
    go_wp2_with fail
    refine (format_any (c := c) true HC.out (by have := HL.out; omega) (rd_only HA.out H2.out) BL.out).mono ?_
    rintro x w3 ⟨rfl, h3⟩
    rw [HS.out, HF.out]
    have H3 := Lib.hid (H2.out.trans' h3)
    clear h3
    go_wp2_with fail
    refine (told_any _).mono ?_
    rintro x w4 ⟨rfl, h4⟩
    have H4 := Lib.hid (H3.out.trans' h4)
    clear h4
    go_wp2_with fail
    go_ret
    exact ⟨rfl, H4.out⟩
theorem lawStays {H : Type} {enc : TypeId × Value → H} {W : World} {base : Nat} {v0 v1 : Value} {d0 d1 : DataW H} {p0 p1 : List MemPlace} {ts : List TypeId} {ds : List (DataW H)}
    (ov0 : Value.okWide Tryd.prog W .any base 22 v0) (k0 : DataW.Trod enc Tryd.prog W 0 (fun _ => true) true 22 v0 d0 p0)
    (ov1 : Value.okWide Tryd.prog W .any base 3 v1) (k1 : DataW.Trod enc Tryd.prog W 0 (fun _ => true) true 3 v1 d1 p1)
    (_ : (DataW.weightsEach Tryd.prog ts ds).all (· ≤ reachBytes) = true) :
    Calls Tryd.prog 4 #[v0, v1] W fun e w' => e = .returned (.bool true) ∧ Below W.heap.size W w' := by
  obtain ⟨A, c, C, rfl, l1, m1, hC, wC⟩ := open_nums Tryd.underlying22 Tryd.underlying5 (by kernel_rfl) ov0 k0
  obtain ⟨n, rfl, _, _, wn⟩ := open_int Tryd.underlying3 ov1 k1
  by_cases hs : C.length ≤ 700
  · exact (stays_any n l1 hs hC (bytes_of wC)).mono fun x w' h => ⟨h.1, h.2.none⟩
  · have hs' : decide ((C.length : Int) > 700) = true := decide_eq_true (by omega)
    clear k0 k1 ov0 ov1 hC wC
    go_enter Tryd.func4, Tryd.ntmps4
    go_wp2_with fail
    refine (told_any _).mono ?_
    rintro x w4 ⟨rfl, hb4⟩
    go_wp2_with fail
    go_ret
    exact ⟨rfl, hb4.none⟩
end Go.Proofs.YtgleehnmnmmdcaaDoor.Walks
