/- What Update comes to. -/
import Derived.Test.YtoiagpebfkignaaTab
import Derived.Test.YtoiagpebfkignaaOpenInts
import Derived.WalkLawsBesides
import Derived.WalkSpells
import Derived.Deep.QuietTactic
import Derived.BigQuiet
import Derived.BigRegion
import Derived.Deep.CutRange
import Derived.Deep.DeepCutAuto
import Derived.Lib.Hide
import Derived.Outline
namespace Go.Proofs.Ytoiagpebfkignaa.Walks
open Go Go.RowKit Go.Proofs.Ytoiagpebfkignaa.Aid Go.Proofs.Ytoiagpebfkignaa.Plain

def Bytes (l : List Int) : Prop := ∀ x ∈ l, 0 ≤ x ∧ x < 256
theorem Bytes.at {l : List Int} (h : Bytes l) {i : Nat} (hi : i < l.length) : 0 ≤ l.getD i 0 ∧ l.getD i 0 < 256 := by
  rw [List.getD_eq_getElem?_getD, List.getElem?_eq_getElem hi]
  exact h _ (List.getElem_mem hi)
theorem run_take {l : List Int} {i : Nat} (hi : i < l.length) (q : BitVec 32) : run q (l.take (i + 1)) = stpc (run q (l.take i)) (l.getD i 0) := by
  rw [List.take_add_one, List.getElem?_eq_getElem hi, run_append, List.getD_eq_getElem?_getD, List.getElem?_eq_getElem hi]
  rfl
theorem unary_not32 (a : BitVec 32) : Op.unary .xor (.int .u32 (nu a)) = pure (.int .u32 (nu (~~~a))) := by
  rw [← nu_not]; rfl
attribute [local go_sem high] unary_not32
attribute [-go_sem] unary_xor
def UpdPost (r : BitVec 32) (l : List Int) (w : World) (e : Ending) (w' : World) : Prop := e = .returned (.int .u32 (nu (upd r l))) ∧ Only (fun _ => False) w w'
def RunRel (r : BitVec 32) (l : List Int) (w : World) (v5 v18 : Value) (u : World) : Prop := ∃ i : Nat, v18 = .int .i64 (i : Int) ∧ i ≤ l.length ∧ v5 = .int .u32 (nu (run (~~~r) (l.take i))) ∧ Only (fun _ => False) w u
theorem RdK.only {q : IntKind} {w w' : World} {A : Option Addr} {l : List Int} (h : RdK q w A l) (ho : Only (fun _ => False) w w') : RdK q w' A l := h.below ho.none
set_option maxHeartbeats 4000000 in
set_option maxRecDepth 100000 in
theorem upd_small {w : World} {A : Option Addr} {l : List Int} {cap : Nat} (r : BitVec 32) (hR : RdK .u8 w A l) (hb : Bytes l) (hl : l.length < 200) : Calls Try.prog 10 #[.int .u32 (nu r), .slice A l.length cap] w (UpdPost r l w) := by
  have c0 : decide ((l.length : Int) < 200) = true := by simpa using (show (l.length : Int) < 200 by omega)
  have HR := Lib.hid hR
  have HB := Lib.hid hb
  clear hR hb
  go_enter Try.func10, Try.ntmps10
  go_wp2_with fail
  go_loopw [5, 18] (fun v5 v18 u => RunRel r l w v5 v18 u) (fun _ i _ => l.length - (intOf i).toNat)
  case atStart => exact ⟨0, rfl, Nat.zero_le _, rfl, Only.refl _ _⟩
  case round =>
    obtain ⟨i, rfl, hi, rfl, hO⟩ := hrel
    by_cases c : i < l.length
    · have c1 : decide ((i : Int) < (l.length : Int)) = true := by simpa using (show (i : Int) < l.length by omega)
      obtain ⟨ad, rfl, hc⟩ := (RdK.only HR.out hO) (by omega)
      have h1 := hc i c
      have HX := Lib.hid (run_take c (~~~r))
      have HY := Lib.hid (HB.out.at c)
      clear hc
      generalize l.getD i 0 = x at *
      generalize hq : run (~~~r) (l.take i) = q at *
      clear hq
      go_wp2_with fail
      go_at_call 15
      refine (step_any q x HY.out.1 HY.out.2 _).mono ?_
      rintro e w' ⟨rfl, m, rfl⟩
      go_wp2_with fail
      go_roundw
      case rel => exact ⟨i + 1, by simp, by omega, by rw [HX.out], hO.drewN m⟩
      case measure => simp [intOf]; omega
    · have c1 : decide ((i : Int) < (l.length : Int)) = false := by simpa using (show ¬ (i : Int) < l.length by omega)
      have e : l.take i = l := List.take_of_length_le (by omega)
      rw [e]
      clear e
      go_wp2_with fail
      go_ret
      exact ⟨rfl, hO⟩
def GrtRel (r : BitVec 32) (l : List Int) (g : Nat) (w : World) (v5 v31 : Value) (u : World) : Prop :=
  ∃ i : Nat, v31 = .int .i64 (i : Int) ∧ i ≤ l.length ∧ v5 = .int .u32 (nu (run (~~~r) (l.take i))) ∧ ArrAt u g 36 256 tab ∧ Only (fun _ => False) w u
attribute [local go_sem] zero36
theorem byte_xor {q : BitVec 32} {x : Int} (h0 : 0 ≤ x) (h1 : x < 256) : Go.bits .xor .u8 (nu q % 256) x = (((q.toNat % 256) ^^^ x.toNat : Nat) : Int) := by
  obtain ⟨n, rfl⟩ := Int.eq_ofNat_of_zero_le h0
  rw [show nu q % 256 = ((q.toNat % 256 : Nat) : Int) by unfold nu; omega, Int.toNat_natCast]
  exact xor_nat stays_u8 (by omega) (by omega)
set_option maxHeartbeats 4000000 in
set_option maxRecDepth 100000 in
theorem upd_great {w : World} {A : Option Addr} {l : List Int} {cap : Nat} (r : BitVec 32) (hR : RdK .u8 w A l) (hb : Bytes l) (hl : ¬ l.length < 200) (hs : l.length ≤ 1000000) : Calls Try.prog 10 #[.int .u32 (nu r), .slice A l.length cap] w (UpdPost r l w) := by
  have c0 : decide ((l.length : Int) < 200) = false := by simpa using (show ¬ (l.length : Int) < 200 by omega)
  have HR := Lib.hid hR
  have HB := Lib.hid hb
  clear hR hb
  go_enter Try.func10, Try.ntmps10
  go_wp2_with fail
  go_at_call 16
  refine (table_any _).mono ?_
  rintro e w1 ⟨⟨C, rfl, hC⟩, hO1⟩
  go_wp2_with (refine wpList_store_row rfl 36 (.tmp 8) (.tmp 28) rfl w1.heap.size C rfl rfl 36 _ (alloc_new _ _) (by rw [hC.1]; exact size36) (by rw [hC.1]; simp) hC.one ?_)
  have hA : ArrAt ((w1.alloc (.cells (Array.replicate 256 (.int .u32 0)) 36)).setRow w1.heap.size C) w1.heap.size 36 256 tab := ⟨C, setRow_heap _ _ _ _ _ _ (alloc_new _ _), hC⟩
  have hO2 : Only (fun _ => False) w ((w1.alloc (.cells (Array.replicate 256 (.int .u32 0)) 36)).setRow w1.heap.size C) := only_setRow (hO1.alloc _) (Or.inr hO1.size) C
  generalize (w1.alloc (.cells (Array.replicate 256 (.int .u32 0)) 36)).setRow w1.heap.size C = w2 at *
  generalize w1.heap.size = g at *
  go_loopw [5, 31] (fun v5 v31 u => GrtRel r l g w v5 v31 u) (fun _ i _ => l.length - (intOf i).toNat)
  case atStart => exact ⟨0, rfl, Nat.zero_le _, rfl, hA, hO2⟩
  case round =>
    obtain ⟨i, rfl, hi, rfl, hT, hO⟩ := hrel
    by_cases c : i < l.length
    · have c1 : decide ((i : Int) < (l.length : Int)) = true := by simpa using (show (i : Int) < l.length by omega)
      obtain ⟨ad, rfl, hc⟩ := (RdK.only HR.out hO) (by omega)
      have h1 := hc i c
      have HX := Lib.hid (run_take c (~~~r))
      have HY := Lib.hid (HB.out.at c)
      clear hc
      generalize l.getD i 0 = x at *
      generalize hq : run (~~~r) (l.take i) = q at *
      clear hq
      have e1 := byte_xor (q := q) HY.out.1 HY.out.2
      have h2 : (q.toNat % 256) ^^^ x.toNat < 256 := Nat.xor_lt_two_pow (n := 8) (by omega) (by have := HY.out; omega)
      have HZ := Lib.hid (step_tab q x.toNat (by have := HY.out; omega))
      generalize (q.toNat % 256) ^^^ x.toNat = m at *
      have h3 := hT.cell h2
      go_wp2_with fail
      go_roundw
      case rel =>
        refine ⟨i + 1, by simp, by omega, ?_, hT, hO⟩
        have e2 := HZ.out
        rw [Int.toNat_of_nonneg HY.out.1] at e2
        rw [HX.out, e2, ← nu_xor, ← nu_shr q 8 256 rfl]
      case measure => simp [intOf]; omega
    · have c1 : decide ((i : Int) < (l.length : Int)) = false := by simpa using (show ¬ (i : Int) < l.length by omega)
      have e : l.take i = l := List.take_of_length_le (by omega)
      rw [e]
      clear e
      go_wp2_with fail
      go_ret
      exact ⟨rfl, hO⟩
theorem upd_any {w : World} {A : Option Addr} {l : List Int} {cap : Nat} (r : BitVec 32) (hR : RdK .u8 w A l) (hb : Bytes l) (hs : l.length ≤ 1000000) : Calls Try.prog 10 #[.int .u32 (nu r), .slice A l.length cap] w (UpdPost r l w) := by
  by_cases hl : l.length < 200
  · exact upd_small r hR hb hl
  · exact upd_great r hR hb hl hs
set_option maxHeartbeats 1000000 in
theorem sum_any {w : World} {A : Option Addr} {l : List Int} {cap : Nat} (hR : RdK .u8 w A l) (hb : Bytes l) (hs : l.length ≤ 1000000) : Calls Try.prog 12 #[.slice A l.length cap] w (UpdPost 0#32 l w) := by
  have h := upd_any (cap := cap) 0#32 hR hb hs
  have e : nu 0#32 = 0 := by decide
  rw [e] at h
  clear e
  have HS := Lib.hid h
  clear h hR hb hs
  go_enter Try.func12, Try.ntmps12
  go_wp2_with fail
  go_at_call 10
  refine HS.out.mono ?_
  rintro e w1 ⟨rfl, hO⟩
  go_wp2_with fail
  go_ret
  exact ⟨rfl, hO⟩
end Go.Proofs.Ytoiagpebfkignaa.Walks
