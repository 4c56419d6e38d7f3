/- What the matrices' functions come to. -/
import Derived.Test.YtoiagpebfkignaaSlc
import Derived.Test.YtoiagpebfkignaaLawBursts
import Derived.Deep.RegionWith
namespace Go.Proofs.Ytoiagpebfkignaa.Walks
open Go Go.RowKit Go.Proofs.Ytoiagpebfkignaa.Aid Go.Proofs.Ytoiagpebfkignaa.Plain Go.Proofs.YtoiagpebfkignaaW.PrintWords

theorem info39 : (Try.prog.info? 39).map (fun i => (i.zero, i.size)) = some (some (.agg (Array.replicate 32 (.int .u32 0))), 32) := by kernel_rfl
theorem zero39 (w : World) : (zeroValue 39).run Try.prog w = .ok (.agg (Array.replicate 32 (.int .u32 0))) w := (zero_of_info info39).1 w
theorem size39 : (Try.prog.info? 39).map (·.size) = some 32 := (zero_of_info info39).2
theorem row39 : Try.prog.underlying 39 = some (.array 32 22) := by kernel_rfl
attribute [local go_sem] zero39
def NumPost (r : BitVec 32) (w : World) (e : Ending) (w' : World) : Prop := e = .returned (.int .u32 (nu r)) ∧ Only (fun _ => False) w w'
def TimRel (w : World) (m : Nat → BitVec 32) (v : BitVec 32) (v5 v7 : Value) (u : World) : Prop := ∃ i : Nat, v7 = .int .i64 (i : Int) ∧ i ≤ 32 ∧ v5 = .int .u32 (nu (times m v i)) ∧ ArrAt u w.heap.size 39 32 m ∧ Only (fun _ => False) w u
set_option maxHeartbeats 1000000 in
theorem times_any {C : Array Value} {m : Nat → BitVec 32} (hC : Are C 32 m) (v : BitVec 32) (w : World) : Calls Try.prog 17 #[.agg C, .int .u32 (nu v)] w (NumPost (times m v 32) w) := by
  have HC := Lib.hid hC
  clear hC
  go_enter Try.func17, Try.ntmps17
  go_wp2_with fail
  go_loopw [5, 7] (fun v5 v7 u => TimRel w m v v5 v7 u) (fun _ i _ => 32 - (intOf i).toNat)
  case atStart => exact ⟨0, rfl, by decide, rfl, ArrAt.new w 39 HC.out, (Only.refl _ w).alloc _⟩
  case round =>
    obtain ⟨i, rfl, hi, rfl, hA, hO⟩ := hrel
    by_cases c : i < 32
    · have c1 : decide ((i : Int) < 32) = true := decide_eq_true (by omega)
      have b1 := bit_at v i
      have hc := hA.cell c
      have HX := Lib.hid (show times m v (i + 1) = if v.getLsbD i = true then times m v i ^^^ m i else times m v i from rfl)
      cases hb : v.getLsbD i with
      | true =>
        rw [hb] at b1
        go_wp2_with fail
        refine ⟨⟨i + 1, by simp, by omega, ?_, hA, hO⟩, by simp [intOf]; omega⟩
        rw [HX.out, if_pos hb, nu_xor]
      | false =>
        rw [hb] at b1
        go_wp2_with fail
        refine ⟨⟨i + 1, by simp, by omega, ?_, hA, hO⟩, by simp [intOf]; omega⟩
        rw [HX.out, hb, if_neg (by decide)]
    · have c1 : decide ((i : Int) < 32) = false := decide_eq_false (by omega)
      obtain rfl : i = 32 := by omega
      go_wp2_with fail
      go_ret
      exact ⟨rfl, hO⟩
def SqPost (m : Nat → BitVec 32) (w : World) (e : Ending) (w' : World) : Prop := (∃ C, e = .returned (.agg C) ∧ Are C 32 (fun j => times m (m j) 32)) ∧ Only (fun _ => False) w w'
def sqp (m : Nat → BitVec 32) (i j : Nat) : BitVec 32 := if j < i then times m (m j) 32 else 0#32
def SqRel (w : World) (m : Nat → BitVec 32) (v5 : Value) (u : World) : Prop :=
  ∃ i : Nat, v5 = .int .i64 (i : Int) ∧ i ≤ 32 ∧ ArrAt u w.heap.size 39 32 m ∧ ArrAt u (w.heap.size + 1) 39 32 (fun _ => 0#32) ∧ ArrAt u (w.heap.size + 2) 39 32 (sqp m i) ∧ Only (fun _ => False) w u
theorem only_cell (w : World) (g i : Nat) (v : Value) : Only (fun k => k = g) w (w.setCell ⟨g, i, none⟩ v) := (Only.refl (fun k => k = g) w).setCell (S := fun k => k = g) (p := ⟨g, i, none⟩) (Or.inl rfl) v
theorem load22 {w : World} {a : Addr} {x : Int} (h : w.cell? a = some (.int .u32 x)) : (loadVar 22 a).run Try.prog w = .ok (.int .u32 x) w := by
  go_simp
attribute [-go_sem] loadVar
set_option maxHeartbeats 1000000 in
theorem square_any {C : Array Value} {m : Nat → BitVec 32} (hC : Are C 32 m) (w : World) : Calls Try.prog 18 #[.agg C] w (SqPost m w) := by
  have HC := Lib.hid hC
  clear hC
  go_enter Try.func18, Try.ntmps18
  go_wp2_with fail
  go_loopw [5] (fun v5 u => SqRel w m v5 u) (fun i _ => 32 - (intOf i).toNat)
  case atStart =>
    refine ⟨0, rfl, by decide, ?_, ?_, ?_, (((Only.refl _ w).alloc _).alloc _).alloc _⟩
    · exact ⟨C, (alloc_old _ _ (by simp; omega)).trans ((alloc_old _ _ (by simp)).trans (alloc_new _ _)), HC.out⟩
    · exact ⟨_, (alloc_old _ _ (by simp)).trans (by have := alloc_new (w.alloc (.cells C 39)) (.cells (Array.replicate 32 (.int .u32 0)) 39); rwa [alloc_size] at this), Are.zero 32⟩
    · exact ⟨_, by have := alloc_new ((w.alloc (.cells C 39)).alloc (.cells (Array.replicate 32 (.int .u32 0)) 39)) (.cells (Array.replicate 32 (.int .u32 0)) 39); rwa [alloc_size, alloc_size] at this, (Are.zero 32).congr (fun j _ => rfl)⟩
  case round =>
    obtain ⟨i, rfl, hi, hA, hZ, hB, hO⟩ := hrel
    by_cases c : i < 32
    · have c1 : decide ((i : Int) < 32) = true := decide_eq_true (by omega)
      have hc := hA.cell c
      have hf := hB.free i
      have hi0 : (0 : Int) ≤ (i : Int) := by omega
      have hi1 : (i : Int) < 32 := by omega
      obtain ⟨D, hD, hE⟩ := hA
      have HE := Lib.hid hE
      have HZ := Lib.hid hZ
      have HB := Lib.hid hB
      clear hE hZ hB
      go_upto_region 5 with (fail)
      have hL := run_loadVar_row (P := Try.prog) wr.drew w.heap.size 39 39 D (0, 0) _ hD row39 rfl (by rw [HE.out.1]; exact size39)
      have hL2 := load22 (w := wr.drew) (a := ⟨w.heap.size, i, none⟩) hc
      go_region_with (go_at_call 17; refine (times_any HE.out (m i) _).mono ?_; rintro e w' ⟨rfl, hO2⟩; have hB2 := ArrAt.keep (w := wr.drew) HB.out hO2 id; have hc2 := hB2.cell c; have hf2 := hB2.free i; have HB2 := Lib.hid hB2; clear hB2)
      all_goals (
        go_wp2_with fail
        go_roundw
        case rel =>
          refine ⟨i + 1, by simp, by omega, ?_, ?_, ?_, ?_⟩
          · exact ArrAt.keep (S := fun k => k = w.heap.size + 2) (ArrAt.keep (w := wr.drew) ⟨D, hD, HE.out⟩ hO2 id) (only_cell _ (w.heap.size + 2) i _) (by omega)
          · exact ArrAt.keep (S := fun k => k = w.heap.size + 2) (ArrAt.keep (w := wr.drew) HZ.out hO2 id) (only_cell _ (w.heap.size + 2) i _) (by omega)
          · refine (HB2.out.set i (times m (m i) 32)).congr (fun j _ => ?_)
            unfold sqp
            by_cases e : j = i
            · rw [if_pos e, if_pos (by omega), e]
            · rw [if_neg e]
              by_cases e2 : j < i
              · rw [if_pos e2, if_pos (by omega)]
              · rw [if_neg e2, if_neg (by omega)]
          · exact (hO.drew.trans' hO2).setCell (Or.inr (by show w.heap.size ≤ w.heap.size + 2; omega)) _
        case measure => simp [intOf]; omega)
    · have c1 : decide ((i : Int) < 32) = false := decide_eq_false (by omega)
      obtain rfl : i = 32 := by omega
      obtain ⟨D, hD, hE⟩ := hB
      obtain ⟨Z, hZ, hZE⟩ := hZ
      go_wp2_with (first
        | ((with_reducible refine gate 16 rfl ?_); refine wpList_load_row rfl 39 (.tmp 3) rfl _ rfl 39 D (0, 0) _ hD row39 rfl (by rw [hE.1]; exact size39) ?_)
        | (refine wpList_store_row rfl 39 (.tmp 2) (.tmp 16) rfl _ D rfl rfl 39 Z hZ (by rw [hE.1]; exact size39) (by rw [hE.1, hZE.1]) hE.one ?_))
      refine bodyPost_ret (results_cell1 rfl rfl (run_loadVar_row _ _ 39 39 D (0, 0) _ (setRow_heap _ _ _ _ _ _ hZ) row39 rfl (by rw [hE.1]; exact size39))) rfl ⟨⟨D, rfl, hE.congr (fun j hj => ?_)⟩, only_setRow hO (Or.inr (by omega)) D⟩
      unfold sqp; rw [if_pos hj]
end Go.Proofs.Ytoiagpebfkignaa.Walks
