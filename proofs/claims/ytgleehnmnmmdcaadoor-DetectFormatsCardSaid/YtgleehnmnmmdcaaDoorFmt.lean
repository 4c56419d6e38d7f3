/- Contract of Format. -/
import Derived.Test.YtgleehnmnmmdcaaDoorBig
namespace Go.Proofs.YtgleehnmnmmdcaaDoor.Walks
open Go Go.RowKit Go.Proofs.YtgleehnmnmmdcaaDoor.Aid Go.Proofs.YtgleehnmnmmdcaaDoor.Own

def probeOf (l : List Int) : Nat → Bool
  | 0 => pre [80, 75, 3, 4] l || pre [80, 75, 5, 6] l
  | 1 => pre [31, 139] l
  | 2 => pre [48, 55, 48, 55, 48, 49] l
  | _ => tarOf l
def fmtOf (l : List Int) (e : Bool) : Int × Int :=
  if probeOf l 0 then (1, 0) else if probeOf l 1 then (4, 0) else if probeOf l 2 then (3, 0) else if probeOf l 3 then (2, 0)
  else if !e && decide (l.length < 512) then (0, 5) else if zlibOf l then (5, 0) else (0, 2)
def FmtPost (l : List Int) (e : Bool) (w : World) (x : Ending) (w' : World) : Prop := x = .returned (.tuple #[.int .i64 (fmtOf l e).1, .int .i64 (fmtOf l e).2]) ∧ Only (fun _ => False) w w'
@[local go_sem] theorem run_store_fn (P : Program) (w : World) (a : Addr) (m : Mode) (fn : Fn) (first cap : Array Value) : (store a (.func fn first cap) m).run P w = stored P w a (.func fn first cap) m := run_store P w a _ m rfl
@[local go_sem] theorem run_store_nofn (P : Program) (w : World) (a : Addr) (m : Mode) : (store a .nilFunc m).run P w = stored P w a .nilFunc m := run_store P w a _ m rfl
def fmtW (w : World) (A : Option Addr) (n c : Nat) : World :=
  (w.alloc (.cells #[.slice A n c] 39)).alloc (.cells
        #[.int .i64 1, .func (.func 12) #[.agg #[.slice A n c]] #[], .int .i64 4, .func (.func 13) #[.agg #[.slice A n c]] #[],
          .int .i64 3, .func (.func 14) #[.agg #[.slice A n c]] #[], .int .i64 2, .func (.func 15) #[.agg #[.slice A n c]] #[]] 40)
theorem fmt_only (w : World) (A : Option Addr) (n c : Nat) : Only (fun _ => False) w (fmtW w A n c) := ((Only.refl _ w).alloc _).alloc _
theorem fmt_cells {w u : World} {A : Option Addr} {n c : Nat} (h : Only (fun _ => False) (fmtW w A n c) u) :
    u.cell? ⟨w.heap.size, 0, none⟩ = some (.slice A n c) ∧
    u.cell? ⟨w.heap.size + 1, 0, none⟩ = some (.int .i64 1) ∧ u.cell? ⟨w.heap.size + 1, 1, none⟩ = some (.func (.func 12) #[.agg #[.slice A n c]] #[]) ∧
    u.cell? ⟨w.heap.size + 1, 2, none⟩ = some (.int .i64 4) ∧ u.cell? ⟨w.heap.size + 1, 3, none⟩ = some (.func (.func 13) #[.agg #[.slice A n c]] #[]) ∧
    u.cell? ⟨w.heap.size + 1, 4, none⟩ = some (.int .i64 3) ∧ u.cell? ⟨w.heap.size + 1, 5, none⟩ = some (.func (.func 14) #[.agg #[.slice A n c]] #[]) ∧
    u.cell? ⟨w.heap.size + 1, 6, none⟩ = some (.int .i64 2) ∧ u.cell? ⟨w.heap.size + 1, 7, none⟩ = some (.func (.func 15) #[.agg #[.slice A n c]] #[]) := by
  have h1 : (fmtW w A n c).heap[w.heap.size]? = _ := (alloc_old _ _ (by rw [alloc_size]; omega)).trans (alloc_new w _)
  have h2 := alloc_new (w.alloc (.cells #[.slice A n c] 39)) (.cells
        #[.int .i64 1, .func (.func 12) #[.agg #[.slice A n c]] #[], .int .i64 4, .func (.func 13) #[.agg #[.slice A n c]] #[],
          .int .i64 3, .func (.func 14) #[.agg #[.slice A n c]] #[], .int .i64 2, .func (.func 15) #[.agg #[.slice A n c]] #[]] 40)
  rw [alloc_size] at h2
  have k1 := h.keeps h1 id
  have k2 := h.keeps (k := w.heap.size + 1) h2 id
  refine ⟨?_, ?_, ?_, ?_, ?_, ?_, ?_, ?_, ?_⟩
  · simp [World.cell?, k1]
  all_goals simp [World.cell?, k2]
theorem first_cell {w u : World} {g : Nat} {v f : Value} {t : TypeId} {z : Nat × Nat} (h : w.heap[g]? = some (.cells #[v, f] t z)) (ho : Only (fun _ => False) w u) : u.cell? ⟨g, 0, none⟩ = some v := by
  have := ho.keeps h id
  simp [World.cell?, this]
theorem fmt_found {l : List Int} {e : Bool} {w u : World} {k : Nat} (hk : k < 4) (hj : ∀ j, j < k → probeOf l j = false) (hb : probeOf l k = true) (ho : Only (fun _ => False) w u) :
    FmtPost l e w (.returned (.tuple #[.int .i64 (if k = 0 then 1 else if k = 1 then 4 else if k = 2 then 3 else 2), .int .i64 0])) u := by
  refine ⟨?_, ho⟩
  rcases (show k = 0 ∨ k = 1 ∨ k = 2 ∨ k = 3 by omega) with rfl | rfl | rfl | rfl
  · simp [fmtOf, hb]
  · simp [fmtOf, hb, hj 0]
  · simp [fmtOf, hb, hj 0, hj 1]
  · simp [fmtOf, hb, hj 0, hj 1, hj 2]
theorem fmt_short {l : List Int} (hj : ∀ j, j < 4 → probeOf l j = false) (h : l.length < 512) : fmtOf l false = (0, 5) := by simp [fmtOf, hj 0, hj 1, hj 2, hj 3, h]
theorem fmt_long {l : List Int} {e : Bool} (hj : ∀ j, j < 4 → probeOf l j = false) (h : e = true ∨ ¬ l.length < 512) : fmtOf l e = if zlibOf l then (5, 0) else (0, 2) := by
  rcases h with h | h <;> simp [fmtOf, hj 0, hj 1, hj 2, hj 3, h]
set_option maxHeartbeats 4000000 in
theorem format_any {w : World} {A : Option Addr} {l : List Int} {c : Nat} (e : Bool) (hc : l.length ≤ c) (hl : l.length ≤ 1000000) (hA : RdK .u8 w A l) (bl : Bytes l) : Calls Tryd.prog 8 #[.slice A l.length c, .bool e] w (FmtPost l e w) := by
  have hmf : ∀ (fn : Fn) (first cap : Array Value) (w : World), (Instr.makeFunc fn first cap).run Tryd.prog w = .ok (.func fn first cap) w := fun _ _ _ _ => rfl
  have HA := Lib.hid hA
  have BL := Lib.hid bl
  have HC := Lib.hid hc
  have HL := Lib.hid hl
  clear hA bl hc hl
  go_enter Tryd.func8, Tryd.ntmps8
  go_wp2_with fail
  go_loopw [25] (fun v25 u => ∃ i : Nat, v25 = .int .i64 (i : Int) ∧ i ≤ 4 ∧ Hid (Only (fun _ => False) (fmtW w A l.length c) u) ∧ Hid (∀ j, j < i → probeOf l j = false)) (fun i _ => 4 - (intOf i).toNat)
  case atStart => exact ⟨0, rfl, by decide, Lib.hid (Only.refl _ _), Lib.hid (fun j hj => absurd hj (by omega))⟩
  case round =>
    obtain ⟨i, rfl, hi, HO, HJ⟩ := hrel
    obtain ⟨a0, t0, t1, t2, t3, t4, t5, t6, t7⟩ := fmt_cells HO.out
    rcases (show i = 0 ∨ i = 1 ∨ i = 2 ∨ i = 3 ∨ i = 4 by omega) with rfl | rfl | rfl | rfl | rfl
    · have HOk := Lib.hid ((HO.out).alloc (.cells #[.int .i64 1, .func (.func 12) #[.agg #[.slice A l.length c]] #[]] 40))
      have HN := Lib.hid (alloc_new wr (.cells #[.int .i64 1, .func (.func 12) #[.agg #[.slice A l.length c]] #[]] 40))
      go_wp2_with fail
      refine (zip_any HC.out (rd_only HA.out ((fmt_only w A l.length c).trans' HOk.out)) BL.out).mono ?_
      rintro x w2 ⟨rfl, ho⟩
      have f0 := first_cell HN.out ho
      have HO2 := Lib.hid (HOk.out.trans' ho)
      clear ho a0 t0 t1 t2 t3 t4 t5 t6 t7
      obtain ⟨b, hb⟩ : ∃ b, (pre [80, 75, 3, 4] l || pre [80, 75, 5, 6] l) = b := ⟨_, rfl⟩
      rw [hb]
      have HB := Lib.hid (show probeOf l 0 = b from hb)
      clear hb
      cases b with
      | true =>
        go_wp2_with fail
        go_ret2
        exact fmt_found (by decide) HJ.out HB.out ((fmt_only w A l.length c).trans' HO2.out)
      | false =>
        go_wp2_with fail
        exact ⟨⟨1, by rfl, by decide, HO2, Lib.hid (fun j hj => by
          by_cases e : j < 0
          · exact HJ.out j e
          · rw [show j = 0 by omega]; exact HB.out)⟩, by decide⟩
    · have HOk := Lib.hid ((HO.out).alloc (.cells #[.int .i64 4, .func (.func 13) #[.agg #[.slice A l.length c]] #[]] 40))
      have HN := Lib.hid (alloc_new wr (.cells #[.int .i64 4, .func (.func 13) #[.agg #[.slice A l.length c]] #[]] 40))
      go_wp2_with fail
      refine (gzip_any HC.out (rd_only HA.out ((fmt_only w A l.length c).trans' HOk.out)) BL.out).mono ?_
      rintro x w2 ⟨rfl, ho⟩
      have f0 := first_cell HN.out ho
      have HO2 := Lib.hid (HOk.out.trans' ho)
      clear ho a0 t0 t1 t2 t3 t4 t5 t6 t7
      obtain ⟨b, hb⟩ : ∃ b, pre [31, 139] l = b := ⟨_, rfl⟩
      rw [hb]
      have HB := Lib.hid (show probeOf l 1 = b from hb)
      clear hb
      cases b with
      | true =>
        go_wp2_with fail
        go_ret2
        exact fmt_found (by decide) HJ.out HB.out ((fmt_only w A l.length c).trans' HO2.out)
      | false =>
        go_wp2_with fail
        exact ⟨⟨2, by rfl, by decide, HO2, Lib.hid (fun j hj => by
          by_cases e : j < 1
          · exact HJ.out j e
          · rw [show j = 1 by omega]; exact HB.out)⟩, by decide⟩
    · have HOk := Lib.hid ((HO.out).alloc (.cells #[.int .i64 3, .func (.func 14) #[.agg #[.slice A l.length c]] #[]] 40))
      have HN := Lib.hid (alloc_new wr (.cells #[.int .i64 3, .func (.func 14) #[.agg #[.slice A l.length c]] #[]] 40))
      go_wp2_with fail
      refine (cpio_any HC.out (rd_only HA.out ((fmt_only w A l.length c).trans' HOk.out)) BL.out).mono ?_
      rintro x w2 ⟨rfl, ho⟩
      have f0 := first_cell HN.out ho
      have HO2 := Lib.hid (HOk.out.trans' ho)
      clear ho a0 t0 t1 t2 t3 t4 t5 t6 t7
      obtain ⟨b, hb⟩ : ∃ b, pre [48, 55, 48, 55, 48, 49] l = b := ⟨_, rfl⟩
      rw [hb]
      have HB := Lib.hid (show probeOf l 2 = b from hb)
      clear hb
      cases b with
      | true =>
        go_wp2_with fail
        go_ret2
        exact fmt_found (by decide) HJ.out HB.out ((fmt_only w A l.length c).trans' HO2.out)
      | false =>
        go_wp2_with fail
        exact ⟨⟨3, by rfl, by decide, HO2, Lib.hid (fun j hj => by
          by_cases e : j < 2
          · exact HJ.out j e
          · rw [show j = 2 by omega]; exact HB.out)⟩, by decide⟩
    · have HOk := Lib.hid ((HO.out).alloc (.cells #[.int .i64 2, .func (.func 15) #[.agg #[.slice A l.length c]] #[]] 40))
      have HN := Lib.hid (alloc_new wr (.cells #[.int .i64 2, .func (.func 15) #[.agg #[.slice A l.length c]] #[]] 40))
      go_wp2_with fail
      refine (tar_any HC.out HL.out (rd_only HA.out ((fmt_only w A l.length c).trans' HOk.out)) BL.out).mono ?_
      rintro x w2 ⟨rfl, ho⟩
      have f0 := first_cell HN.out ho
      have HO2 := Lib.hid (HOk.out.trans' ho)
      clear ho a0 t0 t1 t2 t3 t4 t5 t6 t7
      obtain ⟨b, hb⟩ : ∃ b, tarOf l = b := ⟨_, rfl⟩
      rw [hb]
      have HB := Lib.hid (show probeOf l 3 = b from hb)
      clear hb
      cases b with
      | true =>
        go_wp2_with fail
        go_ret2
        exact fmt_found (by decide) HJ.out HB.out ((fmt_only w A l.length c).trans' HO2.out)
      | false =>
        go_wp2_with fail
        exact ⟨⟨4, by rfl, by decide, HO2, Lib.hid (fun j hj => by
          by_cases e : j < 3
          · exact HJ.out j e
          · rw [show j = 3 by omega]; exact HB.out)⟩, by decide⟩
    · have HP := Lib.hid ((fmt_only w A l.length c).trans' HO.out)
      cases e with
      | true =>
        have HF := Lib.hid (fmt_long (e := true) HJ.out (Or.inl rfl))
        go_wp2_with fail
        refine (zlib_any (rd_only HA.out HP.out) BL.out).mono ?_
        rintro x w2 ⟨rfl, ho⟩
        have HQ := Lib.hid (HP.out.trans' ho)
        clear ho a0 t0 t1 t2 t3 t4 t5 t6 t7
        obtain ⟨b, hb⟩ : ∃ b, zlibOf l = b := ⟨_, rfl⟩
        rw [hb]
        rw [hb] at HF
        clear hb
        cases b with
        | true =>
          go_wp2_with fail
          go_ret2
          exact ⟨by rw [HF.out]; rfl, HQ.out⟩
        | false =>
          go_wp2_with fail
          go_ret2
          exact ⟨by rw [HF.out]; rfl, HQ.out⟩
      | false =>
        by_cases h : l.length < 512
        · have h1 : decide ((l.length : Int) < 512) = true := decide_eq_true (by omega)
          have HF := Lib.hid (fmt_short HJ.out h)
          go_wp2_with fail
          go_ret2
          exact ⟨by rw [HF.out]; rfl, HP.out⟩
        · have h1 : decide ((l.length : Int) < 512) = false := decide_eq_false (by omega)
          have HF := Lib.hid (fmt_long (e := false) HJ.out (Or.inr h))
          go_wp2_with fail
          refine (zlib_any (rd_only HA.out HP.out) BL.out).mono ?_
          rintro x w2 ⟨rfl, ho⟩
          have HQ := Lib.hid (HP.out.trans' ho)
          clear ho a0 t0 t1 t2 t3 t4 t5 t6 t7
          obtain ⟨b, hb⟩ : ∃ b, zlibOf l = b := ⟨_, rfl⟩
          rw [hb]
          rw [hb] at HF
          clear hb
          cases b with
          | true =>
            go_wp2_with fail
            go_ret2
            exact ⟨by rw [HF.out]; rfl, HQ.out⟩
          | false =>
            go_wp2_with fail
            go_ret2
            exact ⟨by rw [HF.out]; rfl, HQ.out⟩
end Go.Proofs.YtgleehnmnmmdcaaDoor.Walks
