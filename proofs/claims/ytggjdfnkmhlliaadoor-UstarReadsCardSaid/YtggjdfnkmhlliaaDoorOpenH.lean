/- A header that comes in, laid open. -/
import Derived.Test.YtggjdfnkmhlliaaDoorOpenN
import Derived.Test.YtggjdfnkmhlliaaDoorTold
import Derived.OpenShut
import Derived.ChangeOld
import Derived.SizedLaws
namespace Go.Proofs.YtggjdfnkmhlliaaDoor.Walks
open Go Go.RowKit Go.Proofs.YtggjdfnkmhlliaaDoor.Aid Go.Proofs.YtggjdfnkmhlliaaDoor.Own Go.Proofs.YtggjdfnkmhlliaaDoorW.PrintWords

theorem i64_bd {x : Int} (h : (Lit.int .i64 x).wf = true) : -9223372036854775808 ≤ x ∧ x ≤ 9223372036854775807 := by
  have := i64_b h; omega
theorem at_eq {cs : Array Value} {j : Nat} {c x : Value} (h : cs[j]? = some c) (e : c = x) : cs[j]? = some x := by rw [h, e]
theorem agg11 {cs : Array Value} {a0 a1 a2 a3 a4 a5 a6 a7 a8 a9 a10 : Value} (hn : cs.size = 11) (h0 : cs[0]? = some a0) (h1 : cs[1]? = some a1) (h2 : cs[2]? = some a2) (h3 : cs[3]? = some a3) (h4 : cs[4]? = some a4) (h5 : cs[5]? = some a5) (h6 : cs[6]? = some a6) (h7 : cs[7]? = some a7) (h8 : cs[8]? = some a8) (h9 : cs[9]? = some a9) (h10 : cs[10]? = some a10) :
    cs = #[a0, a1, a2, a3, a4, a5, a6, a7, a8, a9, a10] := by
  apply Array.ext_getElem?
  intro i
  by_cases hi : i < 11
  · rcases (show i = 0 ∨ i = 1 ∨ i = 2 ∨ i = 3 ∨ i = 4 ∨ i = 5 ∨ i = 6 ∨ i = 7 ∨ i = 8 ∨ i = 9 ∨ i = 10 by omega) with rfl | rfl | rfl | rfl | rfl | rfl | rfl | rfl | rfl | rfl | rfl <;> simp only [*] <;> rfl
  · rw [Array.getElem?_eq_none (by omega), Array.getElem?_eq_none (by simp; omega)]
/-- What a header that came in is: its texts short enough for a machine, its numbers ints. -/
structure HIn (H : Hdr) : Prop where
  mode : -9223372036854775808 ≤ H.mode ∧ H.mode ≤ 9223372036854775807
  uid : -9223372036854775808 ≤ H.uid ∧ H.uid ≤ 9223372036854775807
  gid : -9223372036854775808 ≤ H.gid ∧ H.gid ≤ 9223372036854775807
  size : -9223372036854775808 ≤ H.size ∧ H.size ≤ 9223372036854775807
  time : -9223372036854775808 ≤ H.time ∧ H.time ≤ 9223372036854775807
  name : H.name.length ≤ 9223372036854775807
  pre : H.pre.length ≤ 9223372036854775807
  target : H.target.length ≤ 9223372036854775807
  user : H.user.length ≤ 9223372036854775807
  group : H.group.length ≤ 9223372036854775807
theorem HIn.ok {H : Hdr} (h : HIn H) {n : Nat} (hn : n ≤ 1000) (h1 : H.name.length ≤ n) (h2 : H.pre.length ≤ n) (h3 : H.target.length ≤ n) (h4 : H.user.length ≤ n) (h5 : H.group.length ≤ n) : HOk H :=
  ⟨by omega, by omega, by omega, by omega, by omega, h.mode, h.uid, h.gid, h.size, h.time⟩
theorem open_hdr {H : Type} {enc : TypeId × Value → H} {W : World} {v : Value} {d : DataW H} {p : List MemPlace} {base : Nat} (ov : Value.okWide Tryd.prog W .any base 24 v) (k : DataW.Trod enc Tryd.prog W 0 (fun _ => true) true 24 v d p) :
    ∃ K : Hdr, v = hval K ∧ HIn K := by
  obtain ⟨cs, n, rfl, hn, hf⟩ := open_aggN Tryd.underlying24 (by kernel_rfl) (by kernel_rfl) ov k
  obtain ⟨c0, y0, h0, t0⟩ := hf 0 _ rfl
  obtain ⟨c1, y1, h1, t1⟩ := hf 1 _ rfl
  obtain ⟨c2, y2, h2, t2⟩ := hf 2 _ rfl
  obtain ⟨c3, y3, h3, t3⟩ := hf 3 _ rfl
  obtain ⟨c4, y4, h4, t4⟩ := hf 4 _ rfl
  obtain ⟨c5, y5, h5, t5⟩ := hf 5 _ rfl
  obtain ⟨c6, y6, h6, t6⟩ := hf 6 _ rfl
  obtain ⟨c7, y7, h7, t7⟩ := hf 7 _ rfl
  obtain ⟨c8, y8, h8, t8⟩ := hf 8 _ rfl
  obtain ⟨c9, y9, h9, t9⟩ := hf 9 _ rfl
  obtain ⟨c10, y10, h10, t10⟩ := hf 10 _ rfl
  obtain ⟨s0, e0, _, b0⟩ := DataW.trod_string Tryd.underlying9 t0
  obtain ⟨s1, e1, _, b1⟩ := DataW.trod_string Tryd.underlying9 t1
  obtain ⟨s2, e2, _, b2⟩ := DataW.trod_string Tryd.underlying9 t2
  obtain ⟨x3, e3, _, b3⟩ := DataW.trod_int Tryd.underlying3 t3
  obtain ⟨x4, e4, _, b4⟩ := DataW.trod_int Tryd.underlying3 t4
  obtain ⟨x5, e5, _, b5⟩ := DataW.trod_int Tryd.underlying3 t5
  obtain ⟨x6, e6, _, b6⟩ := DataW.trod_int Tryd.underlying3 t6
  obtain ⟨x7, e7, _, b7⟩ := DataW.trod_int Tryd.underlying3 t7
  obtain ⟨x8, e8, _, b8⟩ := DataW.trod_int Tryd.underlying5 t8
  obtain ⟨s9, e9, _, b9⟩ := DataW.trod_string Tryd.underlying9 t9
  obtain ⟨s10, e10, _, b10⟩ := DataW.trod_string Tryd.underlying9 t10
  simp only [List.cons.injEq, and_true] at e0 e1 e2 e3 e4 e5 e6 e7 e8 e9 e10
  have hu := u8_b b8
  have ht : ((UInt8.ofNat x8.toNat).toNat : Int) = x8 := by
    rw [UInt8.toNat_ofNat']; omega
  have sz (s : ByteArray) (h : s.size ≤ maxLen) : s.data.toList.length ≤ 9223372036854775807 := by
    unfold maxLen at h
    show s.data.toList.length ≤ _
    rw [Array.length_toList]; exact h
  refine ⟨⟨s0.data.toList, s1.data.toList, s2.data.toList, x3, x4, x5, x6, x7, UInt8.ofNat x8.toNat, s9.data.toList, s10.data.toList⟩, ?_, ⟨i64_bd b3, i64_bd b4, i64_bd b5, i64_bd b6, i64_bd b7, sz _ b0, sz _ b1, sz _ b2, sz _ b9, sz _ b10⟩⟩
  have := agg11 hn (at_eq h0 e0) (at_eq h1 e1) (at_eq h2 e2) (at_eq h3 e3) (at_eq h4 e4) (at_eq h5 e5) (at_eq h6 e6) (at_eq h7 e7) (at_eq h8 e8) (at_eq h9 e9) (at_eq h10 e10)
  unfold hval hrow
  rw [this]
  simp only [data_B, ht]
theorem lv9 (a : Addr) (w : World) : (loadVar 9 a).run Tryd.prog w = (load a).run Tryd.prog w := by
  go_simp
theorem lv3 (a : Addr) (w : World) : (loadVar 3 a).run Tryd.prog w = (load a).run Tryd.prog w := by
  go_simp
theorem lv5 (a : Addr) (w : World) : (loadVar 5 a).run Tryd.prog w = (load a).run Tryd.prog w := by
  go_simp
theorem lv22 (a : Addr) (w : World) : (loadVar 22 a).run Tryd.prog w = (load a).run Tryd.prog w := by
  go_simp
end Go.Proofs.YtggjdfnkmhlliaaDoor.Walks
