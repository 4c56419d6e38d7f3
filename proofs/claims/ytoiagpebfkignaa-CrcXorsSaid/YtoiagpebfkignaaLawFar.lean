/- The law 'a text with many noughts behind it is summed as one put together' answers true, whatever the text and the number. -/
import Derived.Test.YtoiagpebfkignaaLawCombines
namespace Go.Proofs.Ytoiagpebfkignaa.Walks
open Go Go.RowKit Go.Proofs.Ytoiagpebfkignaa.Aid Go.Proofs.Ytoiagpebfkignaa.Plain Go.ChangeShapes Go.WideShapes Go.Proofs.YtoiagpebfkignaaW.PrintWords

section
variable {ops : Array Oper} {rest : List Oper} {o : Oper} {a : Act} {Q : Exit → Act → World → Prop}
theorem own_make {w0 W : World} {base : Nat} (hgd : o.guard = none) {N : Tmp} (hd : o.dst = some N) (x : Operand) (ho : o.op = .makeSlice 23 x x) (n : Nat) (hx : a.eval x = .int .i64 (n : Int)) (HB : Below base w0 W) (hbase : base ≤ W.heap.size)
    (hl : n ≤ 1000000) (h : ∀ v1 w1, Own base w1 v1 (List.replicate n 0) → Below base w0 w1 → wpList Try.prog ops Q rest (a.put o.dst v1) w1) : wpList Try.prog ops Q (o :: rest) a W := by
  refine Kd.R_make (Kd.int .u8) base 5 hgd hd 23 x x ho (n : Int) hx hx Try.underlying23 (.int .u8 0) 1 info5 rfl (by decide) (by decide) (0 : Int) (ok := fun _ => True) (okp := fun _ => True) ?hzero (fun _ hk => hk) trivial (by omega) (by omega) HB hbase ?_
  case hzero => exact rfl
  intro v1 w1 hO hB _ _
  exact h v1 w1 hO hB
end
set_option maxHeartbeats 4000000 in
set_option maxRecDepth 100000 in
theorem far_any (w : World) (A : Option Addr) (l : List Int) (c : Nat) (n : Int) (hR : RdK .u8 w A l) (hb : Bytes l) (hl : l.length ≤ 50) : Calls Try.prog 8 #[.slice A l.length c, .int .i64 n] w (LawPost w) := by
  have HR := Lib.hid hR
  have HB := Lib.hid hb
  clear hR hb
  have c0 : decide ((l.length : Int) > 50) = false := by simp; omega
  have hl1 := Lib.hid hl
  clear hl
  have hln1 : l.length ≤ 1000000 := by have := hl1.out; omega
  go_enter Try.func8, Try.ntmps8
  go_upto_region 4 with (fail)
  obtain ⟨k, hk, hk2⟩ : ∃ k : Nat, wrap64 ((IntKind.u64.wrap n).tmod 4001) = (k : Int) ∧ k ≤ 4000 := by
    rw [IntKind.wrap_u64]
    have h1 : 0 ≤ n % 18446744073709551616 := by omega
    rw [Int.tmod_eq_emod_of_nonneg h1, wrap64_in (by omega) (by omega)]
    exact ⟨(n % 18446744073709551616 % 4001).toNat, by omega, by omega⟩
  rw [hk]
  have HK := Lib.hid hk2
  clear hk hk2
  go_wp2_with (first
    | (with_reducible refine gate 16 rfl ?_
       refine own_make (base := w.heap.size) (w0 := w) rfl rfl (.tmp 15) rfl k rfl (Below.refl _ _) (Nat.le_refl _) (by have := HK.out; omega) ?_
       intro v1 w1 hV1 hB1))
  obtain ⟨A1, c1, rfl, hR1⟩ := hV1.rd
  have HR1 := Lib.hid hR1
  have hbz : Bytes (List.replicate k 0) := fun x hx => by rw [List.eq_of_mem_replicate hx]; decide
  have hlz : (List.replicate k (0 : Int)).length ≤ 1000000 := by have := HK.out; simp; omega
  have HL := Lib.hid (show (List.replicate k (0 : Int)).length = k by simp)
  generalize List.replicate k (0 : Int) = z at *
  clear hR1
  go_at_call 9
  refine (told_any _).mono ?_
  rintro e w2 ⟨rfl, hO2⟩
  go_wp2_with fail
  go_at_call 12
  refine (sum_any (RdK.only (HR.out.below hB1) hO2) HB.out hln1).mono ?_
  rintro e w3 ⟨rfl, hO3⟩
  replace hO3 := hO2.trans' hO3
  clear hO2
  go_wp2_with fail
  go_at_call 12
  refine (sum_any (RdK.only HR1.out hO3) hbz hlz).mono ?_
  rintro e w4 ⟨rfl, hO4⟩
  replace hO4 := hO3.trans' hO4
  clear hO3
  go_wp2_with fail
  go_at_call 14
  refine (combine_any _ _ k (by have := HK.out; omega) _).mono ?_
  rintro e w5 ⟨rfl, hO5⟩
  replace hO5 := hO4.trans' hO5
  clear hO4
  have hcb := combines 0#32 l z
  rw [HL.out] at hcb
  rw [hcb]
  clear hcb
  have hB5 := hB1.trans (hO5.none.mono hB1.size)
  have hR5 := RdK.only HR1.out hO5
  have HR5 := Lib.hid hR5
  have HR5a := Lib.hid (RdK.below HR.out hB5)
  clear hO5 hB1 HR1 hV1 hR5
  go_wp2_with (first
    | (with_reducible refine gate 25 rfl ?_
       refine gate_guard (by rfl) ?_; dsimp only
       refine own_empty (base := w5.heap.size) (w0 := w5) rfl rfl ?hr (Below.refl _ _) (Nat.le_refl _) ?_
       (case hr => first | (go_simp; done) | (go_simp; rfl))
       intro v1 u1 hV1 hC1 hs1)
    | (with_reducible refine gate 27 rfl ?_
       refine gate_guard (by rfl) ?_; dsimp only
       refine own_append (base := w5.heap.size) (w0 := w5) rfl (.tmp 25) (.tmp 26) rfl v1 [] l A c rfl rfl hV1 (HR5a.out.below hC1) hC1 hC1.size (by have := hl1.out; simp; omega) ?_
       intro v2 u2 hV2 hC2 hs2)
    | (with_reducible refine gate 29 rfl ?_
       refine gate_guard (by rfl) ?_; dsimp only
       refine own_append (base := w5.heap.size) (w0 := w5) rfl (.tmp 27) (.tmp 28) rfl v2 ([] ++ l) z A1 c1 rfl rfl hV2 (HR5.out.below hC2) hC2 hC2.size (by have := hl1.out; have := HK.out; have := HL.out; simp; omega) ?_
       intro v3 u3 hV3 hC3 hs3))
  rw [List.nil_append] at hV3
  obtain ⟨A3, c3, rfl, hR3⟩ := hV3.rd
  have hbs : Bytes (l ++ z) := fun x hx => (List.mem_append.1 hx).elim (HB.out x) (hbz x)
  have hls : (l ++ z).length ≤ 1000000 := by have := hl1.out; have := HK.out; have := HL.out; simp; omega
  go_at_call 12
  refine (sum_any hR3 hbs hls).mono ?_
  rintro e w6 ⟨rfl, hO6⟩
  have hB6 := hB5.trans ((hC3.trans (hO6.none.mono hC3.size)).mono hB5.size)
  clear hC1 hC2 hC3 hV1 hV2 hV3 hs1 hs2 hs3 hR3 hO6
  go_wp2_with fail
  go_ret
  exact ⟨rfl, hB6⟩
theorem lawFar {H : Type} {enc : TypeId × Value → H} {W : World} {base : Nat} {v0 v1 : Value} {d0 d1 : DataW H} {p0 p1 : List MemPlace} {ts : List TypeId} {ds : List (DataW H)}
    (ov0 : Value.okWide Try.prog W .any base 23 v0) (k0 : DataW.Trod enc Try.prog W 0 (fun _ => true) true 23 v0 d0 p0)
    (ov1 : Value.okWide Try.prog W .any base 3 v1) (k1 : DataW.Trod enc Try.prog W 0 (fun _ => true) true 3 v1 d1 p1)
    (_ : (DataW.weightsEach Try.prog ts ds).all (· ≤ reachBytes) = true) :
    Calls Try.prog 8 #[v0, v1] W fun e w' => e = .returned (.bool true) ∧ Below W.heap.size W w' := by
  obtain ⟨A1, c1, C, rfl, l1, m1, hC, wC⟩ := open_nums Try.underlying23 Try.underlying5 (by kernel_rfl) ov0 k0
  obtain ⟨n, rfl, _, _, wn⟩ := open_int Try.underlying3 ov1 k1
  by_cases hs : C.length ≤ 50
  · exact far_any W A1 C c1 n hC (u8_bytes wC) hs
  · have hs' : decide ((C.length : Int) > 50) = true := by simp; omega
    clear k0 k1 ov0 ov1 hC wC
    go_enter Try.func8, Try.ntmps8
    go_wp2_with fail
    go_at_call 9
    refine (told_any _).mono ?_
    rintro x w4 ⟨rfl, hb4⟩
    go_wp2_with fail
    go_ret
    exact ⟨rfl, hb4.none⟩
end Go.Proofs.Ytoiagpebfkignaa.Walks
