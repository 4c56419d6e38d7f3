/- The law 'bits that are turned within 32 that follow one another always turn the sum' answers true, whatever the text, the place and the pattern. -/
import Derived.Test.YtoiagpebfkignaaLawSums
namespace Go.Proofs.Ytoiagpebfkignaa.Walks
open Go Go.RowKit Go.Proofs.Ytoiagpebfkignaa.Aid Go.Proofs.Ytoiagpebfkignaa.Plain Go.ChangeShapes Go.WideShapes Go.Proofs.YtoiagpebfkignaaW.PrintWords

theorem Own.form {base : Nat} {w : World} {v : Value} {l : List Int} (h : Own base w v l) (h0 : 0 < l.length) : ∃ g cap, v = .slice (some ⟨g, 0, none⟩) l.length cap ∧ base ≤ g := by
  obtain ⟨g, cap, e, _⟩ := Kd.own_of_R h |>.form h0
  subst e
  exact ⟨g, cap, rfl, Kd.R_base h g rfl⟩
theorem Own.put {base : Nat} {w : World} {g cap : Nat} {l : List Int} (h : Own base w (.slice (some ⟨g, 0, none⟩) l.length cap) l) (i : Nat) (x : Int) :
    Own base (w.setCell ⟨g, i, none⟩ (.int .u8 x)) (.slice (some ⟨g, 0, none⟩) l.length cap) (l.set i x) := (Kd.R_put h (i : Int) x).1
theorem Own.cell {base : Nat} {w : World} {g n cap : Nat} {l : List Int} (h : Own base w (.slice (some ⟨g, 0, none⟩) n cap) l) {j : Nat} (hj : j < l.length) : w.cell? ⟨g, j, none⟩ = some (.int .u8 (l.getD j 0)) := by
  obtain ⟨A, c, e, hR⟩ := h.rd
  obtain ⟨ad, e2, hc⟩ := hR (by omega)
  rw [e2] at e
  injection e with e _ _
  injection e with e
  rw [← hc j hj, ← e]
  congr 1
  unfold Addr.add; split <;> simp_all
theorem Own.frozen {base : Nat} {w : World} {g n cap : Nat} {l : List Int} (h : Own base w (.slice (some ⟨g, 0, none⟩) n cap) l) {j : Nat} (hj : j < n) : w.frozen? ⟨g, j, none⟩ = false :=
  (Kd.R_celln (0 : Int) h (j : Int) (by omega) (by omega)).2
theorem turn_byte {x : Int} {m : Nat} (h : 0 ≤ x ∧ x < 256) (hm : m < 8) : b32 (Go.bits .xor .u8 x (2 ^ m % 256)) = b32 x ^^^ ((1#32) <<< m) ∧ 0 ≤ Go.bits .xor .u8 x (2 ^ m % 256) ∧ Go.bits .xor .u8 x (2 ^ m % 256) < 256 := by
  obtain ⟨n, rfl⟩ := Int.eq_ofNat_of_zero_le h.1
  have hlt : (2 : Nat) ^ m < 256 := Nat.pow_lt_pow_right (by decide) hm
  have e : (2 ^ m % 256 : Int) = ((2 ^ m : Nat) : Int) := by
    have e0 : (2 ^ m : Int) = ((2 ^ m : Nat) : Int) := by norm_cast
    rw [e0]
    generalize 2 ^ m = z at hlt ⊢
    omega
  rw [e, xor_nat stays_u8 (by omega) (by omega), b32_nat, b32_nat]
  have h2 : n ^^^ 2 ^ m < 256 := Nat.xor_lt_two_pow (n := 8) (by omega) (by omega)
  refine ⟨?_, by omega, by omega⟩
  apply BitVec.eq_of_toNat_eq
  rw [BitVec.toNat_xor, BitVec.toNat_ofNat, BitVec.toNat_ofNat, BitVec.toNat_shiftLeft, Nat.mod_eq_of_lt (by omega), Nat.mod_eq_of_lt (by omega)]
  congr 1
  rw [show (1#32).toNat = 1 by decide, Nat.shiftLeft_eq, Nat.one_mul, Nat.mod_eq_of_lt (by omega)]
theorem cut_at {l : List Int} {q : Nat} (h : q < l.length) (y : Int) : l = l.take q ++ l.getD q 0 :: l.drop (q + 1) ∧ l.set q y = l.take q ++ y :: l.drop (q + 1) := by
  refine ⟨?_, ?_⟩
  · rw [List.getD_eq_getElem?_getD, List.getElem?_eq_getElem h, Option.getD_some, ← List.drop_eq_getElem_cons h, List.take_append_drop]
  · rw [List.set_eq_take_append_cons_drop, if_pos h]
theorem Turned.put {b cL : List Int} {f : Nat} {p : BitVec 32} {i : Nat} {x y : Int} (h : Turned b cL f p i) (hi : i < 32) (hb : p.getLsbD i = true) (hk : f + i < 8 * b.length) (hx : cL.getD ((f + i) / 8) 0 = x)
    (hy : b32 y = b32 x ^^^ ((1#32) <<< ((f + i) % 8))) : Turned b (cL.set ((f + i) / 8) y) f p (i + 1) := by
  have hq : (f + i) / 8 < cL.length := by rw [h.1]; omega
  obtain ⟨e1, e2⟩ := cut_at hq y
  rw [e2]
  rw [e1, hx] at h
  exact Turned.on h hi hb hk (by rw [List.length_take]; omega) hy
theorem Bytes.set {l : List Int} (h : Bytes l) (q : Nat) {y : Int} (hy : 0 ≤ y ∧ y < 256) : Bytes (l.set q y) := fun x hx => by
  rcases List.mem_or_eq_of_mem_set hx with hx | rfl
  · exact h x hx
  · exact hy
theorem bit_at (p : BitVec 32) (i : Nat) : (Go.bits .and .u32 (nu p / 2 ^ i) 1 == 1) = p.getLsbD i := by
  rw [nu_shr p i (2 ^ i) (by norm_cast)]
  have h := nu_odd (p >>> i)
  rw [BitVec.getLsbD_ushiftRight, Nat.add_zero] at h
  cases hb : p.getLsbD i with
  | true => rw [hb] at h; simpa using h
  | false => rw [hb] at h; simpa using h
theorem sums_dec {b c : List Int} {f : Nat} {p : BitVec 32} {i : Nat} (h : Turned b c f p i) : ((nu (upd 0#32 b) != nu (upd 0#32 c)) == !decide (low i p = 0#32)) = true := by
  have h1 := h.sums
  have h2 := nu_inj (r := upd 0#32 b) (s := upd 0#32 c)
  by_cases hz : low i p = 0#32
  · have e := h2.2 (h1.2 hz)
    simp [e, hz]
  · have e : nu (upd 0#32 b) ≠ nu (upd 0#32 c) := fun e => hz (h1.1 (h2.1 e))
    simp [e, hz]
theorem sum_own {base : Nat} {w w1 : World} {g n cap : Nat} {l : List Int} (h : Own base w (.slice (some ⟨g, 0, none⟩) n cap) l) (hn : l.length = n) (ho : Only (fun _ => False) w w1) (hb : Bytes l) (hs : n ≤ 1000000) :
    Calls Try.prog 12 #[.slice (some ⟨g, 0, none⟩) n cap] w1 (UpdPost 0#32 l w1) := by
  obtain ⟨A, c, e, hR⟩ := h.rd
  subst hn
  injection e with e _ _
  rw [← e] at hR
  exact sum_any (RdK.only hR ho) hb hs
def BurstRel (base g cap : Nat) (w : World) (l : List Int) (f : Nat) (p : BitVec 32) (v10 v11 : Value) (u : World) : Prop :=
  ∃ (i : Nat) (cL : List Int), v11 = .int .i64 (i : Int) ∧ i ≤ 32 ∧ v10 = .bool (decide (low i p ≠ 0#32)) ∧ Own base u (.slice (some ⟨g, 0, none⟩) l.length cap) cL ∧ Turned l cL f p i ∧ Bytes cL ∧ Below base w u
set_option maxHeartbeats 4000000 in
set_option maxRecDepth 100000 in
theorem bursts_any (w : World) (A : Option Addr) (l : List Int) (c : Nat) (hR : RdK .u8 w A l) (hb : Bytes l) (hl : l.length ≤ 300) (h0 : 0 < l.length) (t : Int) (p : BitVec 32) (ht : -9223372036854775808 ≤ t ∧ t < 9223372036854775808) :
    Calls Try.prog 5 #[.slice A l.length c, .int .i64 t, .int .u32 (nu p)] w (LawPost w) := by
  have HR := Lib.hid hR
  have HB := Lib.hid hb
  clear hR hb
  have c0 : ((l.length : Int) == 0) = false := beq_eq_false_iff_ne.mpr (by omega)
  have c1 : decide ((l.length : Int) > 300) = false := by simp; omega
  have hl1 := Lib.hid hl
  have hl0 := Lib.hid h0
  have HT := Lib.hid ht
  obtain ⟨n, hn⟩ : ∃ n : Nat, n = 8 * l.length := ⟨_, rfl⟩
  have e8 : wrap64 (8 * (l.length : Int)) = (n : Int) := by rw [wrap64_in (by omega) (by omega)]; omega
  have zn : ¬ (n : Int) = 0 := by omega
  obtain ⟨f, hf, hfn⟩ : ∃ f : Nat, Int.tmod (wrap64 (Int.tmod t n + n)) n = (f : Int) ∧ f < n := by
    have h1 := Int.tmod_lt_of_pos t (show (0 : Int) < n by omega)
    have h2 : -(n : Int) < Int.tmod t n := by
      have := Int.tmod_lt_of_pos (-t) (show (0 : Int) < n by omega)
      rw [Int.neg_tmod] at this
      omega
    rw [wrap64_in (by omega) (by omega)]
    have h3 := Int.tmod_nonneg (n : Int) (show 0 ≤ Int.tmod t n + n by omega)
    have h4 := Int.tmod_lt_of_pos (Int.tmod t n + n) (show (0 : Int) < n by omega)
    exact ⟨(Int.tmod (Int.tmod t n + n) n).toNat, by omega, by omega⟩
  have Hn := Lib.hid hn
  have Hf := Lib.hid hfn
  clear hl h0 ht hn hfn
  go_enter Try.func5, Try.ntmps5
  go_wp2_with (first
    | (with_reducible refine gate 22 rfl ?_
       refine own_empty (base := w.heap.size) (w0 := w) rfl rfl ?hr (Below.refl _ _) (Nat.le_refl _) ?_
       (case hr => first | (go_simp; done) | (go_simp; rfl))
       intro v1 w1 hO1 hB1 hs1)
    | (with_reducible refine gate 24 rfl ?_
       refine own_append (base := w.heap.size) (w0 := w) rfl (.tmp 22) (.tmp 23) rfl v1 [] l A c rfl rfl hO1 (HR.out.below hB1) hB1 hB1.size (by have := hl1.out; simp; omega) ?_
       intro v2 w2 hO2 hB2 hs2))
  rw [List.nil_append] at hO2
  obtain ⟨g, cap, rfl, hg⟩ := hO2.form hl0.out
  have HRb := Lib.hid (HR.out.below hB2)
  rw [e8]
  clear hO1 hB1 hs1 hs2 c0 c1 e8 hf zn
  go_loopw [10, 11] (fun v10 v11 u => BurstRel w.heap.size g cap w l f p v10 v11 u) (fun _ i _ => 32 - (intOf i).toNat)
  case atStart => exact ⟨0, l, rfl, by omega, by rw [low_zero]; rfl, hO2, Turned.zero l f p, HB.out, hB2⟩
  case round =>
    obtain ⟨i, cL, rfl, hi, rfl, hO, hT, hBc, hBl⟩ := hrel
    have hO' := Lib.hid hO
    have hT' := Lib.hid hT
    clear hO2 hB2 hO hT
    by_cases d1 : i < 32
    · have e1 : wrap64 ((f : Int) + (i : Int)) = (f : Int) + i := wrap64_in (by have := Hf.out; have := Hn.out; have := hl1.out; omega) (by have := Hf.out; have := Hn.out; have := hl1.out; omega)
      have d1' : decide ((i : Int) < 32) = true := decide_eq_true (by omega)
      by_cases d2 : f + i < n
      · have d2' : decide ((f : Int) + (i : Int) < (n : Int)) = true := decide_eq_true (by omega)
        have b1 := bit_at p i
        have hn24 : n ≤ 2400 := by have := Hn.out; have := hl1.out; omega
        cases hb : p.getLsbD i with
        | true =>
          rw [hb] at b1
          have hql : (f + i) / 8 < l.length := by have := Hn.out; omega
          have e4 : (0 : Int) ≤ ((f : Int) + i) / 8 ∧ ((f : Int) + i) / 8 < (l.length : Int) := by omega
          have hlc := hT'.out.1
          have h1 := hO'.out.cell (j := (f + i) / 8) (by omega)
          have HX := Lib.hid (hBc.at (i := (f + i) / 8) (by omega))
          generalize hx : cL.getD ((f + i) / 8) 0 = x at *
          have hx' := Lib.hid hx
          clear hx
          have hz := hO'.out.frozen hql
          go_wp2_with fail
          obtain ⟨y1, y2, y3⟩ := turn_byte (m := (f + i) % 8) HX.out (Nat.mod_lt _ (by omega))
          refine ⟨⟨i + 1, cL.set ((f + i) / 8) _, by simp, by omega, ?_, ?_, Turned.put hT'.out d1 hb (by have := Hn.out; omega) hx'.out y1, hBc.set _ ⟨y2, y3⟩, ?_⟩, by simp [intOf]; omega⟩
          · rw [decide_eq_true (low_on_ne hb)]
          · have := hO'.out
            rw [← hlc] at this ⊢
            exact Own.put this _ _
          · exact hBl.setCell hg _
        | false =>
          rw [hb] at b1
          go_wp2_with fail
          refine ⟨⟨i + 1, cL, by simp, by omega, ?_, hO'.out, hT'.out.off hb, hBc, hBl⟩, by simp [intOf]; omega⟩
          rw [low_succ_off hb]
      · have d2' : decide ((f : Int) + (i : Int) < (n : Int)) = false := decide_eq_false (by omega)
        have d1' : decide ((i : Int) < 32) = true := decide_eq_true (by omega)
        have hln : l.length ≤ 1000000 := by have := hl1.out; omega
        have hlc := hT'.out.1
        have HS := sums_dec hT'.out
        go_wp2_with fail
        go_at_call 9
        refine (told_any _).mono ?_
        rintro e w3 ⟨rfl, hO3⟩
        go_wp2_with fail
        go_at_call 12
        refine (sum_any (RdK.only (HR.out.below hBl) hO3) HB.out hln).mono ?_
        rintro e w4 ⟨rfl, hO4⟩
        replace hO4 := hO3.trans' hO4
        clear hO3
        go_wp2_with fail
        go_at_call 12
        refine (sum_own hO'.out hlc hO4 hBc hln).mono ?_
        rintro e w5 ⟨rfl, hO5⟩
        replace hO5 := hO4.trans' hO5
        clear hO4
        go_wp2_with fail
        go_ret
        exact ⟨rfl, hBl.trans (hO5.none.mono hBl.size)⟩
    · have d1' : decide ((i : Int) < 32) = false := decide_eq_false (by omega)
      have hln : l.length ≤ 1000000 := by have := hl1.out; omega
      have hlc := hT'.out.1
      have HS := sums_dec hT'.out
      go_wp2_with fail
      go_at_call 9
      refine (told_any _).mono ?_
      rintro e w3 ⟨rfl, hO3⟩
      go_wp2_with fail
      go_at_call 12
      refine (sum_any (RdK.only (HR.out.below hBl) hO3) HB.out hln).mono ?_
      rintro e w4 ⟨rfl, hO4⟩
      replace hO4 := hO3.trans' hO4
      clear hO3
      go_wp2_with fail
      go_at_call 12
      refine (sum_own hO'.out hlc hO4 hBc hln).mono ?_
      rintro e w5 ⟨rfl, hO5⟩
      replace hO5 := hO4.trans' hO5
      clear hO4
      go_wp2_with fail
      go_ret
      exact ⟨rfl, hBl.trans (hO5.none.mono hBl.size)⟩
theorem lawBursts {H : Type} {enc : TypeId × Value → H} {W : World} {base : Nat} {v0 v1 v2 : Value} {d0 d1 d2 : DataW H} {p0 p1 p2 : List MemPlace} {ts : List TypeId} {ds : List (DataW H)}
    (ov0 : Value.okWide Try.prog W .any base 23 v0) (k0 : DataW.Trod enc Try.prog W 0 (fun _ => true) true 23 v0 d0 p0)
    (ov1 : Value.okWide Try.prog W .any base 3 v1) (k1 : DataW.Trod enc Try.prog W 0 (fun _ => true) true 3 v1 d1 p1)
    (ov2 : Value.okWide Try.prog W .any base 22 v2) (k2 : DataW.Trod enc Try.prog W 0 (fun _ => true) true 22 v2 d2 p2)
    (_ : (DataW.weightsEach Try.prog ts ds).all (· ≤ reachBytes) = true) :
    Calls Try.prog 5 #[v0, v1, v2] W fun e w' => e = .returned (.bool true) ∧ Below W.heap.size W w' := by
  obtain ⟨A1, c1, C, rfl, l1, m1, hC, wC⟩ := open_nums Try.underlying23 Try.underlying5 (by kernel_rfl) ov0 k0
  obtain ⟨t, rfl, _, _, wt⟩ := open_int Try.underlying3 ov1 k1
  obtain ⟨p, rfl, _, _, wp⟩ := open_int Try.underlying22 ov2 k2
  by_cases hs : C.length ≤ 300
  · by_cases hz : 0 < C.length
    · have hp := u32_b wp
      rw [← nu_of hp.1 hp.2]
      exact bursts_any W A1 C c1 hC (u8_bytes wC) hs hz t _ (i64_b wt)
    · have hs' : ((C.length : Int) == 0) = true := beq_iff_eq.mpr (by omega)
      clear k0 k1 k2 ov0 ov1 ov2 hC wC
      go_enter Try.func5, Try.ntmps5
      go_wp2_with fail
      go_at_call 9
      refine (told_any _).mono ?_
      rintro x w4 ⟨rfl, hb4⟩
      go_wp2_with fail
      go_ret
      exact ⟨rfl, hb4.none⟩
  · have hs' : decide ((C.length : Int) > 300) = true := by simp; omega
    have hs2' : ((C.length : Int) == 0) = false := beq_eq_false_iff_ne.mpr (by omega)
    clear k0 k1 k2 ov0 ov1 ov2 hC wC
    go_enter Try.func5, Try.ntmps5
    go_wp2_with fail
    go_at_call 9
    refine (told_any _).mono ?_
    rintro x w4 ⟨rfl, hb4⟩
    go_wp2_with fail
    go_ret
    exact ⟨rfl, hb4.none⟩
end Go.Proofs.Ytoiagpebfkignaa.Walks
