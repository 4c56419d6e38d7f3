/- The law 'sums, going on, and by eight bytes at a time, are what the document says' answers true, whatever the sum ahead and the bytes. -/
import Derived.Test.YtoiagpebfkignaaTold
import Derived.Test.YtoiagpebfkignaaOwn
import Derived.Test.YtoiagpebfkignaaRef
namespace Go.Proofs.Ytoiagpebfkignaa.Walks
open Go Go.RowKit Go.Proofs.Ytoiagpebfkignaa.Aid Go.Proofs.Ytoiagpebfkignaa.Plain Go.ChangeShapes Go.WideShapes

theorem load_rd {w : World} {ad : Addr} {l : List Int} (hc : ∀ j, j < l.length → w.cell? (ad.add j) = some (.int .u8 (l.getD j 0))) : (loadCells ad l.length).run Try.prog w = .ok (l.map (Value.int .u8)).toArray w := by
  have h := run_loadCells_list (P := Try.prog) w ad (l.map (Value.int .u8)) (fun j v hv => by
    rw [List.getElem?_map] at hv
    cases hx : l[j]? with
    | none => rw [hx] at hv; simp at hv
    | some x =>
      rw [hx] at hv
      simp only [Option.map_some, Option.some.injEq] at hv
      have hj : j < l.length := (List.getElem?_eq_some_iff.1 hx).1
      rw [hc j hj, ← hv, List.getD_eq_getElem?_getD, hx]
      rfl)
  simpa using h
theorem str_rd {w : World} {A : Option Addr} {l : List Int} (c : Nat) (h : RdK .u8 w A l) : (convert 23 9 (.slice A l.length c)).run Try.prog w = .ok (.string (strOfNums l)) w := by
  rw [run_convert_bytes_string w 23 9 5 A l.length c Try.underlying23 Try.underlying5 Try.underlying9]
  cases l with
  | nil => cases A <;> simp [Conv.bytesToString] <;> rfl
  | cons x xs =>
    obtain ⟨ad, rfl, hc⟩ := h (by simp)
    rw [run_bytesToString w ad (x :: xs).length c (x :: xs) (load_rd hc), foldl_push_bytes]
    simp [strOfNums, ByteArray.empty, ByteArray.emptyWithCapacity]
    rfl
theorem u8_bytes {l : List Int} (h : ∀ x ∈ l, (Lit.int .u8 x).wf = true) : Bytes l := fun x hx => u8_b (h x hx)
theorem ref_zero {w : World} {A : Option Addr} {l : List Int} {cap : Nat} (hR : RdK .u8 w A l) (hb : Bytes l) (hs : l.length ≤ 1000000) : Calls Try.prog 11 #[.int .u32 0, .slice A l.length cap] w (UpdPost 0#32 l w) := by
  have h := ref_any (cap := cap) 0#32 hR hb hs
  have e : nu 0#32 = 0 := by decide
  rwa [e] at h
def LawPost (w : World) (e : Ending) (w' : World) : Prop := e = .returned (.bool true) ∧ Below w.heap.size w w'
set_option maxHeartbeats 4000000 in
set_option maxRecDepth 100000 in
theorem sums_any (w : World) (r : BitVec 32) (A : Option Addr) (l : List Int) (c : Nat) (hR : RdK .u8 w A l) (hb : Bytes l) (hl : l.length ≤ 500) : Calls Try.prog 3 #[.int .u32 (nu r), .slice A l.length c] w (LawPost w) := by
  have HR := Lib.hid hR
  have HB := Lib.hid hb
  clear hR hb
  have c0 : decide ((l.length : Int) > 500) = false := by simp; omega
  have hl' := Lib.hid hl
  clear hl
  go_enter Try.func3, Try.ntmps3
  go_wp2_with (first
    | (with_reducible refine gate 10 rfl ?_
       refine own_empty (base := w.heap.size) (w0 := w) rfl rfl ?hr (Below.refl _ _) (Nat.le_refl _) ?_
       (case hr => first | (go_simp; done) | (go_simp; rfl))
       intro v1 w1 hO1 hB1 hs1)
    | (with_reducible refine gate 12 rfl ?_
       refine own_append (base := w.heap.size) (w0 := w) rfl (.tmp 10) (.tmp 11) rfl v1 [] l A c rfl rfl hO1 (HR.out.below hB1) hB1 hs1 (by have := hl'.out; simp; omega) ?_
       intro v2 w2 hO2 hB2 hs2))
  rw [List.nil_append] at hO2
  obtain ⟨A2, c2, rfl, hR2⟩ := hO2.rd
  have HR2 := Lib.hid hR2
  have HRb := Lib.hid (HR.out.below hB2)
  have hln : l.length ≤ 1000000 := by have := hl'.out; omega
  clear hR2 hO2 hO1 hB1 hs1 hs2 c0 HR hl'
  go_wp2_with fail
  go_at_call 9
  refine (told_any _).mono ?_
  rintro e w3 ⟨rfl, hO3⟩
  go_wp2_with fail
  go_at_call 10
  refine (upd_any r (RdK.only HR2.out hO3) HB.out hln).mono ?_
  rintro e w4 ⟨rfl, hO4⟩
  replace hO4 := hO3.trans' hO4
  clear hO3
  go_wp2_with fail
  go_at_call 11
  refine (ref_any r (RdK.only HRb.out hO4) HB.out hln).mono ?_
  rintro e w5 ⟨rfl, hO5⟩
  replace hO5 := hO4.trans' hO5
  clear hO4
  go_wp2_with fail
  go_at_call 12
  refine (sum_any (RdK.only HR2.out hO5) HB.out hln).mono ?_
  rintro e w6 ⟨rfl, hO6⟩
  replace hO6 := hO5.trans' hO6
  clear hO5
  go_wp2_with fail
  go_at_call 11
  refine (ref_zero (RdK.only HRb.out hO6) HB.out hln).mono ?_
  rintro e w7 ⟨rfl, hO7⟩
  replace hO7 := hO6.trans' hO7
  clear hO6
  go_wp2_with fail
  go_at_call 13
  refine (slices_any (RdK.only HR2.out hO7) HB.out hln).mono ?_
  rintro e w8 ⟨rfl, hO8⟩
  replace hO8 := hO7.trans' hO8
  clear hO7
  go_wp2_with fail
  go_at_call 11
  refine (ref_zero (RdK.only HRb.out hO8) HB.out hln).mono ?_
  rintro e w9 ⟨rfl, hO9⟩
  replace hO9 := hO8.trans' hO9
  clear hO8
  have s1 := str_rd c2 (RdK.only HR2.out hO9)
  have s2 := str_rd c (RdK.only HRb.out hO9)
  go_wp2_with fail
  go_ret
  exact ⟨rfl, hB2.trans (hO9.none.mono hB2.size)⟩
theorem lawSums {H : Type} {enc : TypeId × Value → H} {W : World} {base : Nat} {v0 v1 : Value} {d0 d1 : DataW H} {p0 p1 : List MemPlace} {ts : List TypeId} {ds : List (DataW H)}
    (ov0 : Value.okWide Try.prog W .any base 22 v0) (k0 : DataW.Trod enc Try.prog W 0 (fun _ => true) true 22 v0 d0 p0)
    (ov1 : Value.okWide Try.prog W .any base 23 v1) (k1 : DataW.Trod enc Try.prog W 0 (fun _ => true) true 23 v1 d1 p1)
    (_ : (DataW.weightsEach Try.prog ts ds).all (· ≤ reachBytes) = true) :
    Calls Try.prog 3 #[v0, v1] W fun e w' => e = .returned (.bool true) ∧ Below W.heap.size W w' := by
  obtain ⟨n, rfl, _, _, wn⟩ := open_int Try.underlying22 ov0 k0
  obtain ⟨A1, c1, C, rfl, l1, m1, hC, wC⟩ := open_nums Try.underlying23 Try.underlying5 (by kernel_rfl) ov1 k1
  by_cases hs : C.length ≤ 500
  · have hn := u32_b wn
    rw [← nu_of hn.1 hn.2]
    exact sums_any W _ A1 C c1 hC (u8_bytes wC) hs
  · have hs' : decide ((C.length : Int) > 500) = true := by simp; omega
    clear k0 k1 ov0 ov1 hC wC
    go_enter Try.func3, Try.ntmps3
    go_wp2_with fail
    go_at_call 9
    refine (told_any _).mono ?_
    rintro x w4 ⟨rfl, hb4⟩
    go_wp2_with fail
    go_ret
    exact ⟨rfl, hb4.none⟩
end Go.Proofs.Ytoiagpebfkignaa.Walks
