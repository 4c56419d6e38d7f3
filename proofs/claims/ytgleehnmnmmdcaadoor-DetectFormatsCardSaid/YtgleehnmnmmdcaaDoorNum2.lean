/- Contract of num.read of two bytes or more. -/
import Derived.Test.YtgleehnmnmmdcaaDoorNum
import Derived.Deep.RegionHeld3
namespace Go.Proofs.YtgleehnmnmmdcaaDoor.Walks
open Go Go.RowKit Go.Proofs.YtgleehnmnmmdcaaDoor.Aid Go.Proofs.YtgleehnmnmmdcaaDoor.Own

theorem at_x {w : World} {A : Option Addr} {n c : Nat} (l : List Int) (i : Nat) (x : Int) (j : Int) (hj : j = (i : Int)) (hn : l.length = n) (hi : i < l.length) (hA : RdK .u8 w A l) (hx : l.getD i 0 = x) : Calls Tryd.prog 39 #[.slice A n c, .int .i64 j] w fun e w' => e = .returned (.int .u8 x) ∧ w' = w := by
  subst hn hx hj; exact at_in i hi hA
theorem or_step {l : List Int} {i : Nat} {z x : Int} (hl : i < l.length) (bl : Bytes l) (hi : i < 2) (hz : two l i = z) (hx : l.getD i 0 = x) : Go.bits .or .u64 (IntKind.u64.wrap (z * 256)) (IntKind.u64.wrap x) = two l (i + 1) := by
  have hb : ∀ j, j < l.length → 0 ≤ l.getD j 0 ∧ l.getD j 0 < 256 := fun j hj => by
    rw [List.getD_eq_getElem?_getD, List.getElem?_eq_getElem hj, Option.getD_some]; exact bl _ (List.getElem_mem hj)
  have hx2 := hb i hl
  have hz2 : 0 ≤ z ∧ z < 256 := by
    rcases (show i = 0 ∨ i = 1 by omega) with rfl | rfl
    · subst hz; exact ⟨by simp [two], by simp [two]⟩
    · subst hz; exact hb 0 (by omega)
  rw [hx] at hx2
  rw [u64_in hx2.1 (by omega), u64_in (x := z * 256) (by omega) (by omega)]
  rw [bits_join .u64 64 (by decide) stays_u64.2 8 (z * 256) x (by omega) (by omega) (by omega) hx2.1 (by omega) (by omega)]
  rcases (show i = 0 ∨ i = 1 by omega) with rfl | rfl
  · subst hz; show two l 0 * 256 + x = l.getD 0 0; rw [hx]; simp [two]
  · subst hz; show two l 1 * 256 + x = l.getD 0 0 * 256 + l.getD 1 0; rw [hx]; rfl
theorem two_put {w u : World} {y z : Int} (h : u.heap[w.heap.size]? = some (.cells #[.int .u64 z] 46 (0, 0)) ∧ u.heap[w.heap.size + 1]? = some (.cells #[.int .i64 0] 26 (0, 0)) ∧ Only (fun _ => False) w u) :
    (u.setCell ⟨w.heap.size, 0, none⟩ (.int .u64 y)).drew.heap[w.heap.size]? = some (.cells #[.int .u64 y] 46 (0, 0)) ∧ (u.setCell ⟨w.heap.size, 0, none⟩ (.int .u64 y)).drew.heap[w.heap.size + 1]? = some (.cells #[.int .i64 0] 26 (0, 0)) ∧ Only (fun _ => False) w (u.setCell ⟨w.heap.size, 0, none⟩ (.int .u64 y)).drew := by
  refine ⟨one_setCell h.1, ?_, (h.2.2.setCell (p := ⟨w.heap.size, 0, none⟩) (Or.inr (Nat.le_refl _)) _).drew⟩
  exact (Below.heap_setCell u ⟨w.heap.size, 0, none⟩ _ _ (by show ¬ w.heap.size + 1 = w.heap.size; omega)).trans h.2.1
theorem two_end {w u : World} {z : Int} (h : u.heap[w.heap.size]? = some (.cells #[.int .u64 z] 46 (0, 0)) ∧ u.heap[w.heap.size + 1]? = some (.cells #[.int .i64 0] 26 (0, 0)) ∧ Only (fun _ => False) w u) :
    ∀ v, v = ((u.setCell ⟨w.heap.size, 0, none⟩ (.int .u64 z)).setCell ⟨w.heap.size + 1, 0, none⟩ (.int .i64 0)).alloc (.cells #[.int .i64 0, .int .i64 0] 63) →
      v.cell? ⟨w.heap.size, 0, none⟩ = some (.int .u64 z) ∧ v.cell? ⟨w.heap.size + 1, 0, none⟩ = some (.int .i64 0) ∧ Only (fun _ => False) w v := by
  rintro v rfl
  have h1 := one_setCell (u := .int .u64 z) h.1
  have h2 := (Below.heap_setCell u ⟨w.heap.size, 0, none⟩ (.int .u64 z) (w.heap.size + 1) (by show ¬ w.heap.size + 1 = w.heap.size; omega)).trans h.2.1
  have h3 := one_setCell (u := .int .i64 0) h2
  have h4 := (Below.heap_setCell (u.setCell ⟨w.heap.size, 0, none⟩ (.int .u64 z)) ⟨w.heap.size + 1, 0, none⟩ (.int .i64 0) w.heap.size (by show ¬ w.heap.size = w.heap.size + 1; omega)).trans h1
  refine ⟨cell_of_one ((alloc_old _ _ (lt_of_block h4)).trans h4), cell_of_one ((alloc_old _ _ (lt_of_block h3)).trans h3), ?_⟩
  exact ((h.2.2.setCell (p := ⟨w.heap.size, 0, none⟩) (Or.inr (Nat.le_refl _)) _).setCell (p := ⟨w.heap.size + 1, 0, none⟩) (Or.inr (by show w.heap.size ≤ w.heap.size + 1; omega)) _).alloc _
set_option maxHeartbeats 1000000 in
theorem read_two {w : World} {A : Option Addr} {l : List Int} {c n : Nat} (hn : l.length = n) (h : 2 ≤ n) (hA : RdK .u8 w A l) (bl : Bytes l) : Calls Tryd.prog 30 #[.slice A n c, .int .i64 0, .int .i64 2, .func (.func 31) #[] #[]] w fun e w' => e = .returned (.tuple #[.int .u64 (two l 2), .int .i64 0]) ∧ Only (fun _ => False) w w' := by
  have hmf : ∀ (fn : Fn) (first cap : Array Value) (w : World), (Instr.makeFunc fn first cap).run Tryd.prog w = .ok (.func fn first cap) w := fun _ _ _ _ => rfl
  have HA := Lib.hid hA
  have BL := Lib.hid bl
  have H2 := Lib.hid h
  have HN := Lib.hid hn
  have q1 : (0 : Int) ≤ (n : Int) := by omega
  clear h hA bl hn
  go_enter_defers Tryd.func30, Tryd.ntmps30
  go_wp2_with fail
  go_at_call 39
  refine (at_x l (n := n) (c := c) 1 _ 1 rfl HN.out (by have := H2.out; have := HN.out; omega) (rd_only HA.out (((Only.refl (fun _ => False) w).alloc _).alloc _)) rfl).mono ?_
  rintro e w1 ⟨rfl, rfl⟩
  go_wp2_with fail
  go_loopw [35] (fun v35 u => ∃ i : Nat, v35 = .int .i64 (i : Int) ∧ i ≤ 2 ∧ Hid (u.heap[w.heap.size]? = some (.cells #[.int .u64 (two l i)] 46 (0, 0)) ∧ u.heap[w.heap.size + 1]? = some (.cells #[.int .i64 0] 26 (0, 0)) ∧ Only (fun _ => False) w u)) (fun i _ => 2 - (intOf i).toNat)
  case atStart =>
    refine ⟨0, rfl, by decide, Lib.hid ⟨(alloc_old _ _ (by simp)).trans (alloc_new _ _), ?_, ((Only.refl (fun _ => False) w).alloc _).alloc _⟩⟩
    have := alloc_new (w.alloc (.cells #[.int .u64 0] 46)) (.cells #[.int .i64 0] 26)
    rwa [alloc_size] at this
  case round =>
    obtain ⟨i, rfl, hi, HM⟩ := hrel
    obtain ⟨z, hz⟩ : ∃ z, two l i = z := ⟨_, rfl⟩
    obtain ⟨x, hx⟩ : ∃ x, l.getD i 0 = x := ⟨_, rfl⟩
    have HZ := Lib.hid hz
    have HX := Lib.hid hx
    clear hz hx
    have c0 := Joins.cell_of_block HM.out.1 0
    have c1 := Joins.cell_of_block HM.out.2.1 0
    have f0 := Joins.unfrozen_of_block HM.out.1 0
    have f1 := Joins.unfrozen_of_block HM.out.2.1 0
    simp only [List.getElem?_toArray, List.getElem?_cons_zero] at c0 c1
    rw [HZ.out] at c0
    by_cases d : i < 2
    · have d1 : decide ((i : Int) < 2) = true := decide_eq_true (by omega)
      have HR := Lib.hid (rd_only HA.out (HM.out.2.2.drew))
      have HL := Lib.hid (show i < l.length by have := H2.out; have := HN.out; omega)
      have WI := Lib.hid (show IntKind.i64.wrap (i : Int) = (i : Int) by rw [IntKind.wrap_i64]; omega)
      go_upto_region 10 with (fail)
      refine wp_region_noPanic ?_
      go_region_with (first
        | (fail)
        | (go_at_call 31; refine (place_any (i : Int) _).mono ?_; rintro e w2 ⟨rfl, rfl⟩)
        | (go_at_call 39; refine (at_x l (n := n) (c := c) i x _ WI.out HN.out HL.out HR.out HX.out).mono ?_; rintro e w2 ⟨rfl, rfl⟩))
      all_goals (
        refine NoPanic.normal ?_
        go_wp2_with fail
        refine ⟨⟨i + 1, by simp, by omega, ?_⟩, by simp [intOf]; omega⟩
        refine Lib.hid ?_
        have E := or_step HL.out BL.out d HZ.out HX.out
        rw [E]
        exact two_put HM.out)
    · have d1 : decide ((i : Int) < 2) = false := decide_eq_false (by omega)
      have HE := Lib.hid (show z = two l 2 by rw [← HZ.out]; rw [show i = 2 by omega])
      go_wp2_with fail
      refine leaves_cons (f := 37) (args := #[.pointer (some ⟨w.heap.size, 0, none⟩), .pointer (some ⟨w.heap.size + 1, 0, none⟩)]) (by simp) (by simp [go_sem]) ?_
      refine (catch_idle _ _ _).mono ?_
      rintro e u' w'' ⟨rfl, rfl, hw⟩
      obtain ⟨hv1, hv2, hv3⟩ := two_end (z := z) (by rw [← HZ.out]; exact HM.out) _ hw
      clear hw
      have hv4 := HE.out
      simp [Leaves, settle, results, Tryd.results30, go_sem, hv1, hv2]
      exact ⟨hv4, hv3⟩
end Go.Proofs.YtgleehnmnmmdcaaDoor.Walks
