/- The law 'the sum of two texts is put together out of theirs' answers true, whatever the two texts and the number. -/
import Derived.Test.YtoiagpebfkignaaComb
import Derived.Deep.CutBlock
namespace Go.Proofs.Ytoiagpebfkignaa.Walks
open Go Go.RowKit Go.Proofs.Ytoiagpebfkignaa.Aid Go.Proofs.Ytoiagpebfkignaa.Plain Go.ChangeShapes Go.WideShapes Go.Proofs.YtoiagpebfkignaaW.PrintWords

theorem combine_zero (a : BitVec 32) (w : World) : Calls Try.prog 14 #[.int .u32 (nu a), .int .u32 0, .int .i64 0] w (NumPost a w) := by
  have h := combine_any a 0#32 0 (by decide) w
  rw [Nat.mul_zero, BitVec.xor_zero] at h
  exact h
set_option maxHeartbeats 4000000 in
set_option maxRecDepth 100000 in
theorem combines_any (w : World) (A : Option Addr) (l : List Int) (c : Nat) (A' : Option Addr) (l' : List Int) (c' : Nat) (n : Int) (hR : RdK .u8 w A l) (hb : Bytes l) (hl : l.length ≤ 300)
    (hR' : RdK .u8 w A' l') (hb' : Bytes l') (hl' : l'.length ≤ 300) (hn : -9223372036854775808 ≤ n ∧ n < 9223372036854775808) : Calls Try.prog 7 #[.slice A l.length c, .slice A' l'.length c', .int .i64 n] w (LawPost w) := by
  have HR := Lib.hid hR
  have HB := Lib.hid hb
  have HR1 := Lib.hid hR'
  have HB1 := Lib.hid hb'
  have HN := Lib.hid hn
  clear hR hb hR' hb' hn
  have c0 : decide ((l.length : Int) > 300) = false := by simp; omega
  have c1 : decide ((l'.length : Int) > 300) = false := by simp; omega
  have hl1 := Lib.hid hl
  have hl2 := Lib.hid hl'
  clear hl hl'
  have hln1 : l.length ≤ 1000000 := by have := hl1.out; omega
  have hln2 : l'.length ≤ 1000000 := by have := hl2.out; omega
  go_enter Try.func7, Try.ntmps7
  go_upto_if 20 with (first
    | (go_at_call 12; refine (sum_any HR.out HB.out hln1).mono ?_; rintro e w1 ⟨rfl, hO1⟩))
  go_cut [2] from 21 to 22 (fun v2 wx => ∃ n' : Int, v2 = .int .i64 n' ∧ n' ≤ 0 ∧ wx = w1)
  case first =>
    go_wp2_with fail
    all_goals go_meet
    · exact ⟨wrap64 (-n), rfl, by rw [wrap64_in (by have := HN.out; omega) (by have := HN.out; omega)]; omega, rfl⟩
    · exact ⟨n, rfl, by omega, rfl⟩
  case rest =>
    obtain ⟨n', rfl, hn', rfl⟩ := hcut
    go_wp2_with fail
    go_at_call 9
    refine (told_any _).mono ?_
    rintro e w2 ⟨rfl, hO2⟩
    replace hO2 := hO1.trans' hO2
    clear hO1
    go_wp2_with fail
    go_at_call 12
    refine (sum_any (RdK.only HR1.out hO2) HB1.out hln2).mono ?_
    rintro e w3 ⟨rfl, hO3⟩
    replace hO3 := hO2.trans' hO3
    clear hO2
    go_wp2_with fail
    go_at_call 14
    refine (combine_any _ _ _ hln2 _).mono ?_
    rintro e w4 ⟨rfl, hO4⟩
    replace hO4 := hO3.trans' hO4
    clear hO3
    rw [combines 0#32 l l']
    go_wp2_with (first
    | (with_reducible refine gate 31 rfl ?_
       refine gate_guard (by rfl) ?_; dsimp only
       refine own_empty (base := w.heap.size) (w0 := w) rfl rfl ?hr hO4.none hO4.size ?_
       (case hr => first | (go_simp; done) | (go_simp; rfl))
       intro v1 u1 hV1 hB1 hs1)
    | (with_reducible refine gate 33 rfl ?_
       refine gate_guard (by rfl) ?_; dsimp only
       refine own_append (base := w.heap.size) (w0 := w) rfl (.tmp 31) (.tmp 32) rfl v1 [] l A c rfl rfl hV1 (HR.out.below hB1) hB1 hB1.size (by have := hl1.out; simp; omega) ?_
       intro v2 u2 hV2 hB2 hs2)
    | (with_reducible refine gate 35 rfl ?_
       refine gate_guard (by rfl) ?_; dsimp only
       refine own_append (base := w.heap.size) (w0 := w) rfl (.tmp 33) (.tmp 34) rfl v2 ([] ++ l) l' A' c' rfl rfl hV2 (HR1.out.below hB2) hB2 hB2.size (by have := hl1.out; have := hl2.out; simp; omega) ?_
       intro v3 u3 hV3 hB3 hs3))
    rw [List.nil_append] at hV3
    obtain ⟨A3, c3, rfl, hR3⟩ := hV3.rd
    have hbs : Bytes (l ++ l') := fun x hx => (List.mem_append.1 hx).elim (HB.out x) (HB1.out x)
    have hls : (l ++ l').length ≤ 1000000 := by have := hl1.out; have := hl2.out; simp; omega
    go_at_call 12
    refine (sum_any hR3 hbs hls).mono ?_
    rintro e w5 ⟨rfl, hO5⟩
    have hB5 := hB3.trans (hO5.none.mono hB3.size)
    clear hB1 hB2 hB3 hV1 hV2 hV3 hs1 hs2 hs3 hR3 hO4 hO5
    go_wp2_with fail
    go_at_call 14
    refine (combine_zero _ _).mono ?_
    rintro e w6 ⟨rfl, hO6⟩
    have hB6 := hB5.trans (hO6.none.mono hB5.size)
    clear hO6 hB5
    by_cases z : n' = 0
    · have z1 : (n' == 0) = true := beq_iff_eq.mpr z
      have z2 := Lib.hid z
      clear z hn'
      go_wp2_with fail
      go_ret
      exact ⟨rfl, hB6⟩
    · have z1 : (n' == 0) = false := beq_eq_false_iff_ne.mpr z
      have z2 := Lib.hid (show n' < 0 by omega)
      clear z hn'
      go_wp2_with fail
      go_at_call 12
      refine (sum_any (RdK.below HR1.out hB6) HB1.out hln2).mono ?_
      rintro e w7 ⟨rfl, hO7⟩
      have hB7 := hB6.trans (hO7.none.mono hB6.size)
      clear hO7 hB6
      go_wp2_with fail
      go_at_call 14
      refine (combine_neg _ _ _ z2.out _).mono ?_
      rintro e w8 ⟨rfl, hO8⟩
      have hB8 := hB7.trans (hO8.none.mono hB7.size)
      clear hO8 hB7
      go_wp2_with fail
      go_ret
      exact ⟨rfl, hB8⟩
theorem lawCombines {H : Type} {enc : TypeId × Value → H} {W : World} {base : Nat} {v0 v1 v2 : Value} {d0 d1 d2 : DataW H} {p0 p1 p2 : List MemPlace} {ts : List TypeId} {ds : List (DataW H)}
    (ov0 : Value.okWide Try.prog W .any base 23 v0) (k0 : DataW.Trod enc Try.prog W 0 (fun _ => true) true 23 v0 d0 p0)
    (ov1 : Value.okWide Try.prog W .any base 23 v1) (k1 : DataW.Trod enc Try.prog W 0 (fun _ => true) true 23 v1 d1 p1)
    (ov2 : Value.okWide Try.prog W .any base 3 v2) (k2 : DataW.Trod enc Try.prog W 0 (fun _ => true) true 3 v2 d2 p2)
    (_ : (DataW.weightsEach Try.prog ts ds).all (· ≤ reachBytes) = true) :
    Calls Try.prog 7 #[v0, v1, v2] W fun e w' => e = .returned (.bool true) ∧ Below W.heap.size W w' := by
  obtain ⟨A1, c1, C, rfl, l1, m1, hC, wC⟩ := open_nums Try.underlying23 Try.underlying5 (by kernel_rfl) ov0 k0
  obtain ⟨A2, c2, D, rfl, l2, m2, hD, wD⟩ := open_nums Try.underlying23 Try.underlying5 (by kernel_rfl) ov1 k1
  obtain ⟨n, rfl, _, _, wn⟩ := open_int Try.underlying3 ov2 k2
  by_cases hs : C.length ≤ 300
  · by_cases hs2 : D.length ≤ 300
    · exact combines_any W A1 C c1 A2 D c2 n hC (u8_bytes wC) hs hD (u8_bytes wD) hs2 (i64_b wn)
    · have hs' : decide ((C.length : Int) > 300) = false := by simp; omega
      have hs2' : decide ((D.length : Int) > 300) = true := by simp; omega
      clear k0 k1 k2 ov0 ov1 ov2 hC wC hD wD
      go_enter Try.func7, Try.ntmps7
      go_wp2_with fail
      go_at_call 9
      refine (told_any _).mono ?_
      rintro x w4 ⟨rfl, hb4⟩
      go_wp2_with fail
      go_ret
      exact ⟨rfl, hb4.none⟩
  · have hs' : decide ((C.length : Int) > 300) = true := by simp; omega
    clear k0 k1 k2 ov0 ov1 ov2 hC wC hD wD
    go_enter Try.func7, Try.ntmps7
    go_wp2_with fail
    go_at_call 9
    refine (told_any _).mono ?_
    rintro x w4 ⟨rfl, hb4⟩
    go_wp2_with fail
    go_ret
    exact ⟨rfl, hb4.none⟩
end Go.Proofs.Ytoiagpebfkignaa.Walks
