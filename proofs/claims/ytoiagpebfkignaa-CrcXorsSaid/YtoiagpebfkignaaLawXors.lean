/- The law 'the sum of the xor of three texts of one length is the xor of their sums' answers true, whatever the three texts. -/
import Derived.Test.YtoiagpebfkignaaLawFar
import Derived.Test.YtoiagpebfkignaaWMore
import Derived.Deep.RegionHeld3
namespace Go.Proofs.Ytoiagpebfkignaa.Walks
open Go Go.RowKit Go.Proofs.Ytoiagpebfkignaa.Aid Go.Proofs.Ytoiagpebfkignaa.Plain Go.ChangeShapes Go.WideShapes Go.Proofs.YtoiagpebfkignaaW.PrintWords Go.Proofs.YtoiagpebfkignaaW.PrintMore

theorem xor_byte {x y : Int} (hx : 0 ≤ x ∧ x < 256) (hy : 0 ≤ y ∧ y < 256) : b32 (Go.bits .xor .u8 x y) = b32 x ^^^ b32 y ∧ 0 ≤ Go.bits .xor .u8 x y ∧ Go.bits .xor .u8 x y < 256 := by
  obtain ⟨n, rfl⟩ := Int.eq_ofNat_of_zero_le hx.1
  obtain ⟨m, rfl⟩ := Int.eq_ofNat_of_zero_le hy.1
  rw [xor_nat stays_u8 (by omega) (by omega), b32_nat, b32_nat, b32_nat]
  have h2 : n ^^^ m < 256 := Nat.xor_lt_two_pow (n := 8) (by omega) (by omega)
  refine ⟨?_, by omega, by omega⟩
  apply BitVec.eq_of_toNat_eq
  rw [BitVec.toNat_xor, BitVec.toNat_ofNat, BitVec.toNat_ofNat, BitVec.toNat_ofNat, Nat.mod_eq_of_lt (by omega), Nat.mod_eq_of_lt (by omega), Nat.mod_eq_of_lt (by omega)]
def XorsTo (a b c d : List Int) (i : Nat) : Prop := ∀ j, j < i → b32 (d.getD j 0) = b32 (a.getD j 0) ^^^ b32 (b.getD j 0) ^^^ b32 (c.getD j 0)
def XorRel (base : Nat) (w : World) (a b c : List Int) (n : Nat) (vd v9 : Value) (u : World) : Prop :=
  ∃ (i : Nat) (d : List Int), v9 = .int .i64 (i : Int) ∧ i ≤ n ∧ d.length = n ∧ Own base u vd d ∧ Bytes d ∧ XorsTo a b c d i ∧ Below base w u
theorem getD_take {l : List Int} {n j : Nat} (h : j < n) : (l.take n).getD j 0 = l.getD j 0 := by
  rw [List.getD_eq_getElem?_getD, List.getD_eq_getElem?_getD, List.getElem?_take, if_pos h]
theorem sums_xor {a b c d : List Int} {n : Nat} (hd : d.length = n) (n1 : n ≤ a.length) (n2 : n ≤ b.length) (n3 : n ≤ c.length) (h : XorsTo a b c d n) :
    nu (upd 0#32 d) = Go.bits .xor .u32 (Go.bits .xor .u32 (nu (upd 0#32 (a.take n))) (nu (upd 0#32 (b.take n)))) (nu (upd 0#32 (c.take n))) := by
  rw [nu_xor, nu_xor]
  refine congrArg nu (upd_xors (by rw [List.length_take]; omega) (by rw [List.length_take]; omega) (by rw [List.length_take]; omega) (fun j hj => ?_))
  rw [getD_take (by omega), getD_take (by omega), getD_take (by omega)]
  exact h j (by omega)
theorem sum_pre {w w1 : World} {A : Option Addr} {l : List Int} {n c : Nat} (hR : RdK .u8 w A l) (ho : Below w.heap.size w w1) (hb : Bytes l) (hn : n ≤ l.length) (hs : n ≤ 1000000) : Calls Try.prog 12 #[.slice A n c] w1 (UpdPost 0#32 (l.take n) w1) := by
  have e : (l.take n).length = n := by rw [List.length_take]; omega
  have h : RdK .u8 w1 A (l.take n) := fun h0 => by
    obtain ⟨ad, e1, hc⟩ := (hR.below ho) (by omega)
    exact ⟨ad, e1, fun j hj => by rw [e] at hj; rw [hc j (by omega), getD_take hj]⟩
  have := sum_any (cap := c) h (fun x hx => hb x (List.mem_of_mem_take hx)) (by omega)
  rwa [e] at this
theorem keep_on {w W w2 : World} {D : Option Addr} {d : List Int} (h : Below w.heap.size w W ∧ RdK .u8 W D d) (ho : Only (fun _ => False) W w2) : Below w.heap.size w w2 ∧ RdK .u8 w2 D d :=
  ⟨h.1.trans (ho.none.mono h.1.size), RdK.only h.2 ho⟩
def least (x y z : Int) : Int := if 300 < (if z < (if y < x then y else x) then z else (if y < x then y else x)) then 300 else (if z < (if y < x then y else x) then z else (if y < x then y else x))
theorem least_is (x y z : Nat) : ∃ n : Nat, least x y z = (n : Int) ∧ n ≤ x ∧ n ≤ y ∧ n ≤ z ∧ n ≤ 300 := by
  refine ⟨(least x y z).toNat, ?_⟩
  unfold least
  omega
theorem min_least (ats : Array TypeId) (x y z : Int) : Builtin.min_ ats 3 #[.int .i64 x, .int .i64 y, .int .i64 z, .int .i64 300] = pure (.int .i64 (least x y z)) := by
  rw [min_four, min2_int]
  simp only [pure_bind, min2_int]
  rfl
attribute [local go_sem] min_least
set_option maxHeartbeats 8000000 in
set_option maxRecDepth 100000 in
theorem xors_any (w : World) (A : Option Addr) (a : List Int) (ca : Nat) (B : Option Addr) (b : List Int) (cb : Nat) (C : Option Addr) (c : List Int) (cc : Nat)
    (hA : RdK .u8 w A a) (hB : RdK .u8 w B b) (hC : RdK .u8 w C c) (ba : Bytes a) (bb : Bytes b) (bc : Bytes c) (la : a.length ≤ ca) (lb : b.length ≤ cb) (lc : c.length ≤ cc) :
    Calls Try.prog 6 #[.slice A a.length ca, .slice B b.length cb, .slice C c.length cc] w (LawPost w) := by
  have HA := Lib.hid hA
  have HB := Lib.hid hB
  have HC := Lib.hid hC
  have BA := Lib.hid ba
  have BB := Lib.hid bb
  have BC := Lib.hid bc
  clear hA hB hC ba bb bc
  go_enter Try.func6, Try.ntmps6
  obtain ⟨n, hn, n1, n2, n3, n4⟩ := least_is a.length b.length c.length
  have hn' := Lib.hid hn
  have hnn := Lib.hid (show n ≤ 300 from n4)
  have L1 : n ≤ ca := by omega
  have L2 : n ≤ cb := by omega
  have L3 : n ≤ cc := by omega
  clear la lb lc hn
  go_upto_region 2 with (fail)
  rw [hn'.out]
  go_wp2_with (first
    | (with_reducible refine gate 18 rfl ?_
       refine own_make (base := w.heap.size) (w0 := w) rfl rfl (.tmp 17) rfl n rfl (Below.refl _ _) (Nat.le_refl _) (by omega) ?_
       intro v1 w1 hV1 hB1))
  go_loopw [9] (fun v9 u => XorRel w.heap.size w a b c n v1 v9 u) (fun i _ => n - (intOf i).toNat)
  case atStart => exact ⟨0, _, rfl, Nat.zero_le _, by simp, hV1, fun x hx => by rw [List.eq_of_mem_replicate hx]; decide, fun j hj => absurd hj (Nat.not_lt_zero _), hB1⟩
  case round =>
    obtain ⟨i, d, rfl, hi, hd, hO, hBd, hX, hBl⟩ := hrel
    clear hV1 hB1
    by_cases e : i < n
    · have e1 : decide ((i : Int) < (n : Int)) = true := decide_eq_true (by omega)
      obtain ⟨g, cap, rfl, hg⟩ := hO.form (by omega)
      obtain ⟨aa, rfl, ha⟩ := (RdK.below HA.out hBl) (by omega)
      obtain ⟨ab, rfl, hb⟩ := (RdK.below HB.out hBl) (by omega)
      obtain ⟨ac, rfl, hc⟩ := (RdK.below HC.out hBl) (by omega)
      have i0 : (0 : Int) ≤ (i : Int) := by omega
      have i1 : (i : Int) < (a.length : Int) := by omega
      have i2 : (i : Int) < (b.length : Int) := by omega
      have i3 : (i : Int) < (c.length : Int) := by omega
      have i4 : (i : Int) < (d.length : Int) := by omega
      have ha1 := ha i (by omega)
      have hb1 := hb i (by omega)
      have hc1 := hc i (by omega)
      have hd1 := hO.cell (j := i) (by omega)
      have hd2 := hO.frozen (j := i) (by omega)
      have hO' := Lib.hid hO
      have hd' := Lib.hid hd
      have GA := Lib.hid (BA.out.at (i := i) (by omega))
      have GB := Lib.hid (BB.out.at (i := i) (by omega))
      have GC := Lib.hid (BC.out.at (i := i) (by omega))
      clear ha hb hc hO hd
      generalize hx : a.getD i 0 = x at *
      generalize hy : b.getD i 0 = y at *
      generalize hz : c.getD i 0 = z at *
      have Hx := Lib.hid hx
      have Hy := Lib.hid hy
      have Hz := Lib.hid hz
      clear hx hy hz
      go_upto_region 6 with (fail)
      go_region
      go_wp2_with fail
      go_roundw
      case rel =>
        obtain ⟨y1, y2⟩ := xor_byte GA.out GB.out
        obtain ⟨z1, z2⟩ := xor_byte y2 GC.out
        refine ⟨i + 1, d.set i _, by simp, by omega, by rw [List.length_set]; exact hd'.out, Kd.R_drew (Own.put hO'.out i _), hBd.set i z2, ?_, below_drew1 (hBl.setCell hg _)⟩
        intro j hj
        by_cases ej : j = i
        · subst ej
          rw [Hx.out, Hy.out, Hz.out, ← y1, ← z1, List.getD_eq_getElem?_getD, List.getElem?_set_self (by have := hd'.out; omega)]
          rfl
        · rw [List.getD_eq_getElem?_getD, List.getElem?_set_ne (Ne.symm ej), ← List.getD_eq_getElem?_getD]
          exact hX j (by omega)
      case measure => simp [intOf]; omega
    · have e1 : decide ((i : Int) < (n : Int)) = false := decide_eq_false (by omega)
      obtain rfl : i = n := by omega
      have HU := Lib.hid (sums_xor hd n1 n2 n3 hX)
      obtain ⟨D, cd, rfl, hRd⟩ := hO.rd
      have HRd := Lib.hid hRd
      have HBd := Lib.hid hBd
      have hd' := Lib.hid hd
      have hld : d.length ≤ 1000000 := by omega
      have M1 : (i : Int) ≤ ca := by omega
      have M2 : (i : Int) ≤ cb := by omega
      have M3 : (i : Int) ≤ cc := by omega
      have i0 : (0 : Int) ≤ (i : Int) := by omega
      clear hRd hO hX hBd hd
      go_upto_region 7 with (fail)
      have hln : i ≤ 1000000 := by omega
      have HW : Hid (Below w.heap.size w wr.drew ∧ RdK .u8 wr.drew D d) := Lib.hid ⟨below_drew1 hBl, RdK.only HRd.out ((Only.refl _ wr).drew)⟩
      clear hBl HRd
      go_region_held3 (fun _ => True) (exact trivial) (first
        |  (fail)
        | (go_at_call 9; refine (told_any _).mono ?_; rintro e w2 ⟨rfl, hO2⟩; replace HW := Lib.hid (keep_on HW.out hO2); clear hO2)
        | (go_at_call_of 12 (Value.slice D d.length cd); refine (sum_any HW.out.2 HBd.out hld).mono ?_; rintro e w2 ⟨rfl, hO2⟩; replace HW := Lib.hid (keep_on HW.out hO2); clear hO2)
        | (go_at_call_of 12 (Value.slice A i ca); refine (sum_pre HA.out HW.out.1 BA.out n1 hln).mono ?_; rintro e w2 ⟨rfl, hO2⟩; replace HW := Lib.hid (keep_on HW.out hO2); clear hO2)
        | (go_at_call_of 12 (Value.slice B i cb); refine (sum_pre HB.out HW.out.1 BB.out n2 hln).mono ?_; rintro e w2 ⟨rfl, hO2⟩; replace HW := Lib.hid (keep_on HW.out hO2); clear hO2)
        | (go_at_call_of 12 (Value.slice C i cc); refine (sum_pre HC.out HW.out.1 BC.out n3 hln).mono ?_; rintro e w2 ⟨rfl, hO2⟩; replace HW := Lib.hid (keep_on HW.out hO2); clear hO2))
      rw [HU.out, beq_self_eq_true]
      go_wp2_with fail
      go_ret
      exact ⟨rfl, HW.out.1⟩
theorem lawXors {H : Type} {enc : TypeId × Value → H} {W : World} {base : Nat} {v0 v1 v2 : Value} {d0 d1 d2 : DataW H} {p0 p1 p2 : List MemPlace} {ts : List TypeId} {ds : List (DataW H)}
    (ov0 : Value.okWide Try.prog W .any base 23 v0) (k0 : DataW.Trod enc Try.prog W 0 (fun _ => true) true 23 v0 d0 p0)
    (ov1 : Value.okWide Try.prog W .any base 23 v1) (k1 : DataW.Trod enc Try.prog W 0 (fun _ => true) true 23 v1 d1 p1)
    (ov2 : Value.okWide Try.prog W .any base 23 v2) (k2 : DataW.Trod enc Try.prog W 0 (fun _ => true) true 23 v2 d2 p2)
    (_ : (DataW.weightsEach Try.prog ts ds).all (· ≤ reachBytes) = true) :
    Calls Try.prog 6 #[v0, v1, v2] W fun e w' => e = .returned (.bool true) ∧ Below W.heap.size W w' := by
  obtain ⟨A1, c1, a, rfl, l1, m1, hA, wA⟩ := open_nums Try.underlying23 Try.underlying5 (by kernel_rfl) ov0 k0
  obtain ⟨A2, c2, b, rfl, l2, m2, hB, wB⟩ := open_nums Try.underlying23 Try.underlying5 (by kernel_rfl) ov1 k1
  obtain ⟨A3, c3, c, rfl, l3, m3, hC, wC⟩ := open_nums Try.underlying23 Try.underlying5 (by kernel_rfl) ov2 k2
  exact xors_any W A1 a c1 A2 b c2 A3 c c3 hA hB hC (u8_bytes wA) (u8_bytes wB) (u8_bytes wC) l1 l2 l3
end Go.Proofs.Ytoiagpebfkignaa.Walks
