/- The law 'the sum goes on from a piece to the next one' answers true, whatever the sum ahead and the two pieces. -/
import Derived.Test.YtoiagpebfkignaaLawSums
namespace Go.Proofs.Ytoiagpebfkignaa.Walks
open Go Go.RowKit Go.Proofs.Ytoiagpebfkignaa.Aid Go.Proofs.Ytoiagpebfkignaa.Plain Go.ChangeShapes Go.WideShapes Go.Proofs.YtoiagpebfkignaaW.PrintWords

set_option maxHeartbeats 4000000 in
set_option maxRecDepth 100000 in
theorem goes_any (w : World) (r : BitVec 32) (A : Option Addr) (l : List Int) (c : Nat) (A' : Option Addr) (l' : List Int) (c' : Nat) (hR : RdK .u8 w A l) (hb : Bytes l) (hl : l.length ≤ 300)
    (hR' : RdK .u8 w A' l') (hb' : Bytes l') (hl' : l'.length ≤ 300) : Calls Try.prog 4 #[.int .u32 (nu r), .slice A l.length c, .slice A' l'.length c'] w (LawPost w) := by
  have HR := Lib.hid hR
  have HB := Lib.hid hb
  have HR1 := Lib.hid hR'
  have HB1 := Lib.hid hb'
  clear hR hb hR' hb'
  have c0 : decide ((l.length : Int) > 300) = false := by simp; omega
  have c1 : decide ((l'.length : Int) > 300) = false := by simp; omega
  have hl1 := Lib.hid hl
  have hl2 := Lib.hid hl'
  clear hl hl'
  go_enter Try.func4, Try.ntmps4
  go_wp2_with fail
  go_at_call 9
  refine (told_any _).mono ?_
  rintro e w0 ⟨rfl, hO0⟩
  go_wp2_with (first
    | (with_reducible refine gate 19 rfl ?_
       refine gate_guard (by rfl) ?_; dsimp only
       refine own_empty (base := w.heap.size) (w0 := w) rfl rfl ?hr hO0.none hO0.size ?_
       (case hr => first | (go_simp; done) | (go_simp; rfl))
       intro v1 w1 hO1 hB1 hs1)
    | (with_reducible refine gate 21 rfl ?_
       refine gate_guard (by rfl) ?_; dsimp only
       refine own_append (base := w.heap.size) (w0 := w) rfl (.tmp 19) (.tmp 20) rfl v1 [] l A c rfl rfl hO1 (HR.out.below hB1) hB1 hB1.size (by have := hl1.out; simp; omega) ?_
       intro v2 w2 hO2 hB2 hs2)
    | (with_reducible refine gate 23 rfl ?_
       refine gate_guard (by rfl) ?_; dsimp only
       refine own_append (base := w.heap.size) (w0 := w) rfl (.tmp 21) (.tmp 22) rfl v2 ([] ++ l) l' A' c' rfl rfl hO2 (HR1.out.below hB2) hB2 hB2.size (by have := hl1.out; have := hl2.out; simp; omega) ?_
       intro v3 w3 hO3 hB3 hs3))
  rw [List.nil_append] at hO3
  obtain ⟨A2, c2, rfl, hR2⟩ := hO3.rd
  have HR2 := Lib.hid hR2
  have HRa := Lib.hid (HR.out.below hB3)
  have HRb := Lib.hid (HR1.out.below hB3)
  have HBc : Bytes (l ++ l') := fun x hx => (List.mem_append.1 hx).elim (HB.out x) (HB1.out x)
  have hln : (l ++ l').length ≤ 1000000 := by have := hl1.out; have := hl2.out; simp; omega
  have hln1 : l.length ≤ 1000000 := by have := hl1.out; omega
  have hln2 : l'.length ≤ 1000000 := by have := hl2.out; omega
  have hap := Lib.hid (upd_append r l l')
  clear hR2 hO3 hO2 hO1 hB1 hB2 hs1 hs2 hs3 c0 c1 HR HR1 hl1 hl2
  go_wp2_with fail
  go_at_call 10
  refine (upd_any r HR2.out HBc hln).mono ?_
  rintro e w4 ⟨rfl, hO4⟩
  rw [hap.out]
  go_wp2_with fail
  go_at_call 10
  refine (upd_any r (RdK.only HRa.out hO4) HB.out hln1).mono ?_
  rintro e w5 ⟨rfl, hO5⟩
  replace hO5 := hO4.trans' hO5
  clear hO4
  go_wp2_with fail
  go_at_call 10
  refine (upd_any _ (RdK.only HRb.out hO5) HB1.out hln2).mono ?_
  rintro e w6 ⟨rfl, hO6⟩
  replace hO6 := hO5.trans' hO6
  clear hO5
  go_wp2_with fail
  go_ret
  exact ⟨rfl, hB3.trans (hO6.none.mono hB3.size)⟩
theorem lawGoes {H : Type} {enc : TypeId × Value → H} {W : World} {base : Nat} {v0 v1 v2 : Value} {d0 d1 d2 : DataW H} {p0 p1 p2 : List MemPlace} {ts : List TypeId} {ds : List (DataW H)}
    (ov0 : Value.okWide Try.prog W .any base 22 v0) (k0 : DataW.Trod enc Try.prog W 0 (fun _ => true) true 22 v0 d0 p0)
    (ov1 : Value.okWide Try.prog W .any base 23 v1) (k1 : DataW.Trod enc Try.prog W 0 (fun _ => true) true 23 v1 d1 p1)
    (ov2 : Value.okWide Try.prog W .any base 23 v2) (k2 : DataW.Trod enc Try.prog W 0 (fun _ => true) true 23 v2 d2 p2)
    (_ : (DataW.weightsEach Try.prog ts ds).all (· ≤ reachBytes) = true) :
    Calls Try.prog 4 #[v0, v1, v2] W fun e w' => e = .returned (.bool true) ∧ Below W.heap.size W w' := by
  obtain ⟨n, rfl, _, _, wn⟩ := open_int Try.underlying22 ov0 k0
  obtain ⟨A1, c1, C, rfl, l1, m1, hC, wC⟩ := open_nums Try.underlying23 Try.underlying5 (by kernel_rfl) ov1 k1
  obtain ⟨A2, c2, D, rfl, l2, m2, hD, wD⟩ := open_nums Try.underlying23 Try.underlying5 (by kernel_rfl) ov2 k2
  by_cases hs : C.length ≤ 300
  · by_cases hs2 : D.length ≤ 300
    · have hn := u32_b wn
      rw [← nu_of hn.1 hn.2]
      exact goes_any W _ A1 C c1 A2 D c2 hC (u8_bytes wC) hs hD (u8_bytes wD) hs2
    · have hs' : decide ((C.length : Int) > 300) = false := by simp; omega
      have hs2' : decide ((D.length : Int) > 300) = true := by simp; omega
      clear k0 k1 k2 ov0 ov1 ov2 hC wC hD wD
      go_enter Try.func4, Try.ntmps4
      go_wp2_with fail
      go_at_call 9
      refine (told_any _).mono ?_
      rintro x w4 ⟨rfl, hb4⟩
      go_wp2_with fail
      go_ret
      exact ⟨rfl, hb4.none⟩
  · have hs' : decide ((C.length : Int) > 300) = true := by simp; omega
    clear k0 k1 k2 ov0 ov1 ov2 hC wC hD wD
    go_enter Try.func4, Try.ntmps4
    go_wp2_with fail
    go_at_call 9
    refine (told_any _).mono ?_
    rintro x w4 ⟨rfl, hb4⟩
    go_wp2_with fail
    go_ret
    exact ⟨rfl, hb4.none⟩
end Go.Proofs.Ytoiagpebfkignaa.Walks
