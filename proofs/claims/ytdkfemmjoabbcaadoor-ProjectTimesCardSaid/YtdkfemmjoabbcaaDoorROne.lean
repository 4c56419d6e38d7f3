/- Contract of the reference's One. Contract of the reference's All. -/
import Derived.Test.YtdkfemmjoabbcaaDoorRClk
import Derived.Test.YtdkfemmjoabbcaaDoorAll
import Derived.Test.YtdkfemmjoabbcaaDoorRRep
namespace Go.Proofs.YtdkfemmjoabbcaaDoor.Walks
open Go Go.RowKit Go.Proofs.YtdkfemmjoabbcaaDoor.Aid Go.Proofs.YtdkfemmjoabbcaaDoor.Pth Go.Proofs.YtdkfemmjoabbcaaDoor.Own Go.Proofs.YtdkfemmjoabbcaaDoorW.PrintWords

/-- Two times are one word, or both are none. -/
def TEq (a b : Nat) : Prop := a = b ∨ (isN a = true ∧ isN b = true)
theorem TEq.rfl' (a : Nat) : TEq a a := Or.inl rfl
/-- Two entries are alike: but for what a time that is none is made of. -/
structure EqT (E F : Ent) : Prop where
  path : E.path = F.path
  kind : E.kind = F.kind
  mode : E.mode = F.mode
  uid : E.uid = F.uid
  gid : E.gid = F.gid
  time : TEq E.time F.time
  target : E.target = F.target
  data : E.data = F.data
theorem EqT.of {E F : Ent} {b : Nat} (h : E = { F with time := b }) (ht : TEq b F.time) : EqT E F := by subst h; exact ⟨rfl, rfl, rfl, rfl, rfl, ht, rfl, rfl⟩
theorem isN_nanW : isN nanW = true := by kernel_rfl
def ROnePost (E : Ent) (A : Option Addr) (c : Nat) (w : World) (x : Ending) (w' : World) : Prop := ∃ F, x = .returned (eval F A c) ∧ EqT F E ∧ Only (fun _ => False) w w'
structure RSt (w : World) (g1 g2 : Nat) (E : Ent) (A : Option Addr) (c : Nat) (u : World) : Prop where
  row : u.heap[g1]? = some (.cells (erow E A c) 25 (0, 0))
  res : u.heap[g2]? = some (.cells zrow 25 (0, 0))
  only : Only (fun _ => False) w u
  ne : g2 ≠ g1
  old : w.heap.size ≤ g1 ∧ w.heap.size ≤ g2
section
variable {w u : World} {g1 g2 : Nat} {E : Ent} {A : Option Addr} {c : Nat}
theorem RSt.put (h : RSt w g1 g2 E A c u) (i : Nat) (v : Value) (E' : Ent) (he : (erow E A c).setIfInBounds i v = erow E' A c) : RSt w g1 g2 E' A c (u.setCell ⟨g1, i, none⟩ v) :=
  ⟨by rw [heap_setCell_same u g1 i _ _ v h.row, he], by rw [heap_setCell_other u ⟨g1, i, none⟩ g2 v h.ne]; exact h.res, h.only.trans (only_put u g1 i v) (fun k hk => Or.inr (by rw [hk]; exact h.old.1)), h.ne, h.old⟩
theorem RSt.step {u' : World} (h : RSt w g1 g2 E A c u) (ho : Only (fun _ => False) u u') : RSt w g1 g2 E A c u' := ⟨ho.keeps h.row id, ho.keeps h.res id, h.only.trans' ho, h.ne, h.old⟩
theorem RSt.fin {w1 : World} {F : Ent} (h : RSt w g1 g2 E A c u) (ho : Only (fun k => k = g2) u w1) (he : EqT E F) : ROnePost F A c w (.returned (eval E A c)) w1 :=
  ⟨E, rfl, he, h.only.trans ho (fun k hk => Or.inr (by rw [hk]; exact h.old.2))⟩
end
theorem oneT_def (E : Ent) (fm : Int) : oneT E fm = (if fm = 2 then { E with time := fineF E.time }
    else if fm = 3 then { E with time := floatOfInt .f64 (unixF E.time) }
    else if fm = 1 then { E with time := zipF E.time, uid := 0, gid := 0 }
    else if fm = 4 then { E with path := if rightL E.path then lastL E.path else E.path, time := fromUnixF (unixF E.time), mode := 420, uid := 0, gid := 0 }
    else if fm = 5 then { E with path := [100, 97, 116, 97], time := nanW, mode := 420, uid := 0, gid := 0 }
    else E) := rfl
attribute [local go_sem] run_store_float
theorem zip_teq {t b : Nat} (h : if isN t = true then isN b = true else b = zipF t) : TEq b (zipF t) := by
  by_cases c : isN t = true
  · rw [if_pos c] at h
    refine Or.inr ⟨h, ?_⟩
    unfold zipF; rw [if_pos c]; exact isN_nanW
  · rw [if_neg c] at h; exact Or.inl h
theorem unix_teq {v : Int} {b : Nat} (h : if v < 1 ∨ 4294967295 < v then isN b = true else b = floatOfInt .f64 v) : TEq b (fromUnixF v) := by
  unfold fromUnixF
  by_cases c : v < 1 ∨ 4294967295 < v
  · rw [if_pos c] at h ⊢
    exact Or.inr ⟨h, isN_nanW⟩
  · rw [if_neg c] at h ⊢; exact Or.inl h
set_option maxRecDepth 100000 in
set_option maxHeartbeats 4000000 in
theorem rone_any (E : Ent) (A : Option Addr) (c : Nat) (fm : Int) (w : World) (hE : EOk E) :
    Calls Tryd.prog 19 #[eval E A c, .int .i64 fm] w (ROnePost (oneT E fm) A c w) := by
  have HE := Lib.hid hE
  have HT := Lib.hid (oneT_def E fm)
  obtain ⟨R, hR⟩ : ∃ R, oneT E fm = R := ⟨_, rfl⟩
  rw [hR] at HT ⊢
  clear hE hR
  have hO1 := (Only.refl (fun _ => False) w).alloc (.cells (erow E A c) 25)
  have hB1 := alloc_new w (.cells (erow E A c) 25)
  go_enter Tryd.func19, Tryd.ntmps19
  go_upto_region 1 with (fail)
  change Code.wp Tryd.prog _ _ _ ((w.alloc (.cells (erow E A c) 25)).alloc (.cells zrow 25))
  obtain ⟨g1, hg1⟩ : ∃ g1, w.heap.size = g1 := ⟨_, rfl⟩
  obtain ⟨W0, hW0⟩ : ∃ W0, w.alloc (.cells (erow E A c) 25) = W0 := ⟨_, rfl⟩
  have hs0 : W0.heap.size = g1 + 1 := by rw [← hW0, ← hg1]; exact Array.size_push _
  rw [hg1, hW0] at hB1
  rw [hW0] at hO1 ⊢
  have hO2 := (Only.refl (fun _ => False) W0).alloc (.cells zrow 25)
  have hB2 := alloc_new W0 (.cells zrow 25)
  rw [hs0] at hB2
  replace hB1 := hO2.keeps hB1 id
  obtain ⟨W6, hW⟩ : ∃ W, W0.alloc (.cells zrow 25) = W := ⟨_, rfl⟩
  rw [hW] at hO2 hB1 hB2 ⊢
  rw [hg1]
  obtain ⟨g2, hg2⟩ : ∃ g2, g1 + 1 = g2 := ⟨_, rfl⟩
  rw [hg2] at hB2 ⊢
  have HS : RSt w g1 g2 E A c W6 := ⟨hB1, hB2, hO1.trans' hO2, by omega, by omega⟩
  clear hO1 hO2 hB1 hB2 hW0 hW hs0 hg1 hg2
  clear W0
  have HSO := Lib.hid HS
  have e0 : W6.cell? ⟨g1, 0, none⟩ = some (.string (B E.path)) := Joins.cell_of_block HS.row 0
  have e2 : W6.cell? ⟨g1, 2, none⟩ = some (.int .i64 E.mode) := Joins.cell_of_block HS.row 2
  have e3 : W6.cell? ⟨g1, 3, none⟩ = some (.int .i64 E.uid) := Joins.cell_of_block HS.row 3
  have e4 : W6.cell? ⟨g1, 4, none⟩ = some (.int .i64 E.gid) := Joins.cell_of_block HS.row 4
  have e5 : W6.cell? ⟨g1, 5, none⟩ = some (.float .f64 E.time) := Joins.cell_of_block HS.row 5
  have f0 := frozen_of_row W6 g1 0 _ _ HS.row
  have f2 := frozen_of_row W6 g1 2 _ _ HS.row
  have f3 := frozen_of_row W6 g1 3 _ _ HS.row
  have f4 := frozen_of_row W6 g1 4 _ _ HS.row
  have f5 := frozen_of_row W6 g1 5 _ _ HS.row
  clear HS
  by_cases q2 : fm = 2
  · have t2 : (fm == 2) = true := beq_iff_eq.mpr q2
    replace HT := Lib.hid (HT.out.trans (if_pos q2))
    have HFi2 := Lib.hid (fun u => rfine_any E.time u)
    have HP := Lib.hid (HSO.out.put 5 (.float .f64 (fineF E.time)) { E with time := fineF E.time } rfl)
    clear q2 e0 e2 e3 e4 f0 f2 f3 f4
    go_wp2_with (first
      | (go_at_call 33; refine (HFi2.out _).mono ?_; rintro x w' ⟨rfl, hw⟩; obtain rfl := hw.symm)
      | ((with_reducible refine gate 51 rfl ?_); refine load_ent rfl _ rfl rfl HP.out.row ?_)
      | ((with_reducible refine gate_store 25 rfl ?_); refine store_ent (cs0 := zrow) rfl rfl _ A c _ _ rfl rfl rfl HP.out.res ?_; intro w8 hb8 ho8; have HL8 := Lib.hid (loadE hb8); have HO8 := Lib.hid ho8; clear hb8 ho8))
    refine bodyPost_ret (results_cell1 rfl rfl HL8.out) rfl ?_
    exact HP.out.fin HO8.out (by rw [HT.out]; exact EqT.of rfl (TEq.rfl' _))
  have t2 : (fm == 2) = false := beq_eq_false_iff_ne.mpr q2
  replace HT := Lib.hid (HT.out.trans (if_neg q2))
  clear q2
  by_cases q3 : fm = 3
  · have t3 : (fm == 3) = true := beq_iff_eq.mpr q3
    replace HT := Lib.hid (HT.out.trans (if_pos q3))
    have HUn2 := Lib.hid (fun u => runix_any E.time u)
    have HP := Lib.hid (HSO.out.put 5 (.float .f64 (floatOfInt .f64 (unixF E.time))) { E with time := floatOfInt .f64 (unixF E.time) } rfl)
    clear q3 e0 e2 e3 e4 f0 f2 f3 f4
    go_wp2_with (first
      | (go_at_call 34; refine (HUn2.out _).mono ?_; rintro x w' ⟨rfl, hw⟩; obtain rfl := hw.symm)
      | ((with_reducible refine gate 51 rfl ?_); refine load_ent rfl _ rfl rfl HP.out.row ?_)
      | ((with_reducible refine gate_store 25 rfl ?_); refine store_ent (cs0 := zrow) rfl rfl _ A c _ _ rfl rfl rfl HP.out.res ?_; intro w8 hb8 ho8; have HL8 := Lib.hid (loadE hb8); have HO8 := Lib.hid ho8; clear hb8 ho8))
    refine bodyPost_ret (results_cell1 rfl rfl HL8.out) rfl ?_
    exact HP.out.fin HO8.out (by rw [HT.out]; exact EqT.of rfl (TEq.rfl' _))
  have t3 : (fm == 3) = false := beq_eq_false_iff_ne.mpr q3
  replace HT := Lib.hid (HT.out.trans (if_neg q3))
  clear q3
  by_cases q1 : fm = 1
  · have t1 : (fm == 1) = true := beq_iff_eq.mpr q1
    replace HT := Lib.hid (HT.out.trans (if_pos q1))
    have HZ1 := Lib.hid (fun u => rdos_any E.time u)
    have HZ2 := Lib.hid (fun u => rdos_back E.time u)
    clear q1 e0 e2 e3 e4 f0 f2 f3 f4 f5
    go_upto_region 8 with (first
      | (go_at_call 36; refine (HZ1.out _).mono ?_; rintro x u1 ⟨rfl, ho1⟩
         have HS1 := Lib.hid (HSO.out.step ho1)
         clear ho1)
      | (go_at_call 35; refine (HZ2.out _).mono ?_; rintro x u2 ⟨tz, rfl, hz, ho2⟩
         have HTz := Lib.hid (zip_teq hz)
         have hS2 := HS1.out.step ho2
         have HS2 := Lib.hid hS2
         have e3 : u2.cell? ⟨g1, 3, none⟩ = some (.int .i64 E.uid) := Joins.cell_of_block hS2.row 3
         have f3 := frozen_of_row u2 g1 3 _ _ hS2.row
         have e4 : u2.cell? ⟨g1, 4, none⟩ = some (.int .i64 E.gid) := Joins.cell_of_block hS2.row 4
         have f4 := frozen_of_row u2 g1 4 _ _ hS2.row
         have e5 : u2.cell? ⟨g1, 5, none⟩ = some (.float .f64 E.time) := Joins.cell_of_block hS2.row 5
         have f5 := frozen_of_row u2 g1 5 _ _ hS2.row
         clear hz ho2 hS2))
    have HP := Lib.hid (((HS2.out.put 5 (.float .f64 tz) { E with time := tz } rfl).put 3 (.int .i64 0) { E with time := tz, uid := 0 } rfl).put 4 (.int .i64 0) { E with time := tz, uid := 0, gid := 0 } rfl)
    go_wp2_with (first
      | ((with_reducible refine gate 51 rfl ?_); refine load_ent rfl _ rfl rfl HP.out.row ?_)
      | ((with_reducible refine gate_store 25 rfl ?_); refine store_ent (cs0 := zrow) rfl rfl _ A c _ _ rfl rfl rfl HP.out.res ?_; intro w8 hb8 ho8; have HL8 := Lib.hid (loadE hb8); have HO8 := Lib.hid ho8; clear hb8 ho8))
    refine bodyPost_ret (results_cell1 rfl rfl HL8.out) rfl ?_
    exact HP.out.fin HO8.out (by rw [HT.out]; exact EqT.of rfl HTz.out)
  have t1 : (fm == 1) = false := beq_eq_false_iff_ne.mpr q1
  replace HT := Lib.hid (HT.out.trans (if_neg q1))
  clear q1
  by_cases q4 : fm = 4
  · have t4 : (fm == 4) = true := beq_iff_eq.mpr q4
    have t5 : (fm == 5) = false := beq_eq_false_iff_ne.mpr (by omega)
    replace HT := Lib.hid (HT.out.trans (if_pos q4))
    have HUn2 := Lib.hid (fun u => runix_any E.time u)
    have HFu := Lib.hid (fun u => rfromUnix_any u (unixF E.time))
    have HNo := Lib.hid (fun u => rnone_any u)
    have HRt := Lib.hid (fun u => rright_any (B E.path) u (by rw [B_size]; exact HE.out.path))
    have HLt := Lib.hid (fun u => rlast_any (B E.path) u (by rw [B_size]; exact HE.out.path))
    rw [B_data] at HRt HLt
    obtain ⟨rb, hrb⟩ : ∃ rb, rightL E.path = rb := ⟨_, rfl⟩
    rw [hrb] at HRt HT
    clear q4 e2 e3 e4 e5 f0 f2 f3 f4 f5 hrb
    cases rb
    · go_upto_region 14 with (first
        | (go_at_call 30; refine (HRt.out _).mono ?_; rintro x u1 ⟨rfl, ho1⟩
           have hS1 := HSO.out.step ho1
           have HS1 := Lib.hid hS1
           have e5 : u1.cell? ⟨g1, 5, none⟩ = some (.float .f64 E.time) := Joins.cell_of_block hS1.row 5
           clear ho1 hS1)
        | (go_at_call 34; refine (HUn2.out _).mono ?_; rintro x w' ⟨rfl, hw⟩; obtain rfl := hw.symm)
        | (go_at_call 38; refine (HFu.out _).mono ?_; rintro x u3 ⟨tz, rfl, hz, ho3⟩
           have HTz := Lib.hid (unix_teq hz)
           have hS3 := HS1.out.step ho3
           have HS3 := Lib.hid hS3
           clear e0 e5
           have e0 : u3.cell? ⟨g1, 0, none⟩ = some (.string (B E.path)) := Joins.cell_of_block hS3.row 0
           have f0 := frozen_of_row u3 g1 0 _ _ hS3.row
           have e2 : u3.cell? ⟨g1, 2, none⟩ = some (.int .i64 E.mode) := Joins.cell_of_block hS3.row 2
           have f2 := frozen_of_row u3 g1 2 _ _ hS3.row
           have e3 : u3.cell? ⟨g1, 3, none⟩ = some (.int .i64 E.uid) := Joins.cell_of_block hS3.row 3
           have f3 := frozen_of_row u3 g1 3 _ _ hS3.row
           have e4 : u3.cell? ⟨g1, 4, none⟩ = some (.int .i64 E.gid) := Joins.cell_of_block hS3.row 4
           have f4 := frozen_of_row u3 g1 4 _ _ hS3.row
           have e5 : u3.cell? ⟨g1, 5, none⟩ = some (.float .f64 E.time) := Joins.cell_of_block hS3.row 5
           have f5 := frozen_of_row u3 g1 5 _ _ hS3.row
           clear hz ho3 hS3))
      have HP := Lib.hid ((((HS3.out.put 5 (.float .f64 tz) { E with time := tz } rfl).put 2 (.int .i64 420) { E with time := tz, mode := 420 } rfl).put 3 (.int .i64 0) { E with time := tz, mode := 420, uid := 0 } rfl).put 4 (.int .i64 0) { E with time := tz, mode := 420, uid := 0, gid := 0 } rfl)
      go_wp2_with (first
        | ((with_reducible refine gate 51 rfl ?_); refine load_ent rfl _ rfl rfl HP.out.row ?_)
        | ((with_reducible refine gate_store 25 rfl ?_); refine store_ent (cs0 := zrow) rfl rfl _ A c _ _ rfl rfl rfl HP.out.res ?_; intro w8 hb8 ho8; have HL8 := Lib.hid (loadE hb8); have HO8 := Lib.hid ho8; clear hb8 ho8))
      refine bodyPost_ret (results_cell1 rfl rfl HL8.out) rfl ?_
      exact HP.out.fin HO8.out (by rw [HT.out]; exact EqT.of rfl HTz.out)
    · go_upto_region 14 with (first
        | (go_at_call 30; refine (HRt.out _).mono ?_; rintro x u1 ⟨rfl, ho1⟩
           have hS1 := HSO.out.step ho1
           have HS1 := Lib.hid hS1
           replace e0 : u1.cell? ⟨g1, 0, none⟩ = some (.string (B E.path)) := Joins.cell_of_block hS1.row 0
           clear ho1 hS1)
        | (go_at_call 37; refine (HLt.out _).mono ?_; rintro x u2 ⟨rfl, ho2⟩
           have hS2 := HS1.out.step ho2
           have HS2 := Lib.hid (hS2.put 0 (.string (B (lastL E.path))) { E with path := lastL E.path } rfl)
           have HS2o := Lib.hid hS2
           clear e0
           have e0 : u2.cell? ⟨g1, 0, none⟩ = some (.string (B E.path)) := Joins.cell_of_block hS2.row 0
           have f0 := frozen_of_row u2 g1 0 _ _ hS2.row
           have e5 : u2.cell? ⟨g1, 5, none⟩ = some (.float .f64 E.time) := Joins.cell_of_block hS2.row 5
           clear ho2 hS2)
        | (go_at_call 34; refine (HUn2.out _).mono ?_; rintro x w' ⟨rfl, hw⟩; obtain rfl := hw.symm)
        | (go_at_call 38; refine (HFu.out _).mono ?_; rintro x u3 ⟨tz, rfl, hz, ho3⟩
           have HTz := Lib.hid (unix_teq hz)
           have hS3 := HS2.out.step ho3
           have HS3 := Lib.hid hS3
           clear e0
           clear f0 e5
           have e0 : u3.cell? ⟨g1, 0, none⟩ = some (.string (B (lastL E.path))) := Joins.cell_of_block hS3.row 0
           have f0 := frozen_of_row u3 g1 0 _ _ hS3.row
           have e2 : u3.cell? ⟨g1, 2, none⟩ = some (.int .i64 E.mode) := Joins.cell_of_block hS3.row 2
           have f2 := frozen_of_row u3 g1 2 _ _ hS3.row
           have e3 : u3.cell? ⟨g1, 3, none⟩ = some (.int .i64 E.uid) := Joins.cell_of_block hS3.row 3
           have f3 := frozen_of_row u3 g1 3 _ _ hS3.row
           have e4 : u3.cell? ⟨g1, 4, none⟩ = some (.int .i64 E.gid) := Joins.cell_of_block hS3.row 4
           have f4 := frozen_of_row u3 g1 4 _ _ hS3.row
           have e5 : u3.cell? ⟨g1, 5, none⟩ = some (.float .f64 E.time) := Joins.cell_of_block hS3.row 5
           have f5 := frozen_of_row u3 g1 5 _ _ hS3.row
           clear hz ho3 hS3))
      have HP := Lib.hid ((((HS3.out.put 5 (.float .f64 tz) { E with path := lastL E.path, time := tz } rfl).put 2 (.int .i64 420) { E with path := lastL E.path, time := tz, mode := 420 } rfl).put 3 (.int .i64 0) { E with path := lastL E.path, time := tz, mode := 420, uid := 0 } rfl).put 4 (.int .i64 0) { E with path := lastL E.path, time := tz, mode := 420, uid := 0, gid := 0 } rfl)
      go_wp2_with (first
        | ((with_reducible refine gate 51 rfl ?_); refine load_ent rfl _ rfl rfl HP.out.row ?_)
        | ((with_reducible refine gate_store 25 rfl ?_); refine store_ent (cs0 := zrow) rfl rfl _ A c _ _ rfl rfl rfl HP.out.res ?_; intro w8 hb8 ho8; have HL8 := Lib.hid (loadE hb8); have HO8 := Lib.hid ho8; clear hb8 ho8))
      refine bodyPost_ret (results_cell1 rfl rfl HL8.out) rfl ?_
      exact HP.out.fin HO8.out (by rw [HT.out]; exact EqT.of rfl HTz.out)
  have t4 : (fm == 4) = false := beq_eq_false_iff_ne.mpr q4
  replace HT := Lib.hid (HT.out.trans (if_neg q4))
  clear q4
  by_cases q5 : fm = 5
  · have t5 : (fm == 5) = true := beq_iff_eq.mpr q5
    have q4 : True := trivial
    replace HT := Lib.hid (HT.out.trans (if_pos q5))
    clear q5
    have HUn2 := Lib.hid (fun u => runix_any E.time u)
    have HFu := Lib.hid (fun u => rfromUnix_any u (unixF E.time))
    have HNo := Lib.hid (fun u => rnone_any u)
    have HRt := Lib.hid (fun u => rright_any (B E.path) u (by rw [B_size]; exact HE.out.path))
    have HLt := Lib.hid (fun u => rlast_any (B E.path) u (by rw [B_size]; exact HE.out.path))
    rw [B_data] at HRt HLt
    obtain ⟨rb, hrb⟩ : ∃ rb, rightL E.path = rb := ⟨_, rfl⟩
    rw [hrb] at HRt
    clear q4 e2 e3 e4 e5 f0 f2 f3 f4 f5 hrb
    cases rb
    · go_upto_region 16 with (first
        | (go_at_call 30; refine (HRt.out _).mono ?_; rintro x u1 ⟨rfl, ho1⟩
           have hS1 := HSO.out.step ho1
           have HS1 := Lib.hid hS1
           have e5 : u1.cell? ⟨g1, 5, none⟩ = some (.float .f64 E.time) := Joins.cell_of_block hS1.row 5
           clear ho1 hS1)
        | (go_at_call 34; refine (HUn2.out _).mono ?_; rintro x w' ⟨rfl, hw⟩; obtain rfl := hw.symm)
        | (go_at_call 38; refine (HFu.out _).mono ?_; rintro x u3 ⟨tz, rfl, hz, ho3⟩
           have HTz := Lib.hid (unix_teq hz)
           have hS3 := HS1.out.step ho3
           have HS3 := Lib.hid hS3
           clear e0 e5
           have e0 : u3.cell? ⟨g1, 0, none⟩ = some (.string (B E.path)) := Joins.cell_of_block hS3.row 0
           have f0 := frozen_of_row u3 g1 0 _ _ hS3.row
           have e2 : u3.cell? ⟨g1, 2, none⟩ = some (.int .i64 E.mode) := Joins.cell_of_block hS3.row 2
           have f2 := frozen_of_row u3 g1 2 _ _ hS3.row
           have e3 : u3.cell? ⟨g1, 3, none⟩ = some (.int .i64 E.uid) := Joins.cell_of_block hS3.row 3
           have f3 := frozen_of_row u3 g1 3 _ _ hS3.row
           have e4 : u3.cell? ⟨g1, 4, none⟩ = some (.int .i64 E.gid) := Joins.cell_of_block hS3.row 4
           have f4 := frozen_of_row u3 g1 4 _ _ hS3.row
           have e5 : u3.cell? ⟨g1, 5, none⟩ = some (.float .f64 E.time) := Joins.cell_of_block hS3.row 5
           have f5 := frozen_of_row u3 g1 5 _ _ hS3.row
           clear hz ho3 hS3))
      have HP := Lib.hid ((((HS3.out.put 5 (.float .f64 tz) { E with time := tz } rfl).put 2 (.int .i64 420) { E with time := tz, mode := 420 } rfl).put 3 (.int .i64 0) { E with time := tz, mode := 420, uid := 0 } rfl).put 4 (.int .i64 0) { E with time := tz, mode := 420, uid := 0, gid := 0 } rfl)
      change Code.wp Tryd.prog _ _ _ ((((u3.setCell ⟨g1, 5, none⟩ (.float .f64 tz)).setCell ⟨g1, 2, none⟩ (.int .i64 420)).setCell ⟨g1, 3, none⟩ (.int .i64 0)).setCell ⟨g1, 4, none⟩ (.int .i64 0))
      obtain ⟨V, hV⟩ : ∃ V, ((((u3.setCell ⟨g1, 5, none⟩ (.float .f64 tz)).setCell ⟨g1, 2, none⟩ (.int .i64 420)).setCell ⟨g1, 3, none⟩ (.int .i64 0)).setCell ⟨g1, 4, none⟩ (.int .i64 0)) = V := ⟨_, rfl⟩
      rw [hV] at HP ⊢
      clear hV e0 e2 e3 e4 e5 f0 f2 f3 f4 f5
      go_upto_region 17 with (go_at_call 39; refine (HNo.out _).mono ?_; rintro x u5 ⟨b, rfl, hb, ho5⟩
                              have HBn := Lib.hid hb
                              have hS5 := HP.out.step ho5
                              have HS5 := Lib.hid hS5
                              have e0 : u5.cell? ⟨g1, 0, none⟩ = some (.string (B E.path)) := Joins.cell_of_block hS5.row 0
                              have f0 := frozen_of_row u5 g1 0 _ _ hS5.row
                              have e5 : u5.cell? ⟨g1, 5, none⟩ = some (.float .f64 tz) := Joins.cell_of_block hS5.row 5
                              have f5 := frozen_of_row u5 g1 5 _ _ hS5.row
                              clear hb ho5 hS5)
      have HQ := Lib.hid ((HS5.out.put 0 (.string (B [100, 97, 116, 97])) { E with path := [100, 97, 116, 97], time := tz, mode := 420, uid := 0, gid := 0 } rfl).put 5 (.float .f64 b) { E with path := [100, 97, 116, 97], time := b, mode := 420, uid := 0, gid := 0 } rfl)
      go_wp2_with (first
        | ((with_reducible refine gate 51 rfl ?_); refine load_ent rfl _ rfl rfl HQ.out.row ?_)
        | ((with_reducible refine gate_store 25 rfl ?_); refine store_ent (cs0 := zrow) rfl rfl _ A c _ _ rfl rfl rfl HQ.out.res ?_; intro w8 hb8 ho8; have HL8 := Lib.hid (loadE hb8); have HO8 := Lib.hid ho8; clear hb8 ho8))
      refine bodyPost_ret (results_cell1 rfl rfl HL8.out) rfl ?_
      exact HQ.out.fin HO8.out (by rw [HT.out]; exact EqT.of rfl (Or.inr ⟨HBn.out, isN_nanW⟩))
    · go_upto_region 16 with (first
        | (go_at_call 30; refine (HRt.out _).mono ?_; rintro x u1 ⟨rfl, ho1⟩
           have hS1 := HSO.out.step ho1
           have HS1 := Lib.hid hS1
           replace e0 : u1.cell? ⟨g1, 0, none⟩ = some (.string (B E.path)) := Joins.cell_of_block hS1.row 0
           clear ho1 hS1)
        | (go_at_call 37; refine (HLt.out _).mono ?_; rintro x u2 ⟨rfl, ho2⟩
           have hS2 := HS1.out.step ho2
           have HS2 := Lib.hid (hS2.put 0 (.string (B (lastL E.path))) { E with path := lastL E.path } rfl)
           have HS2o := Lib.hid hS2
           clear e0
           have e0 : u2.cell? ⟨g1, 0, none⟩ = some (.string (B E.path)) := Joins.cell_of_block hS2.row 0
           have f0 := frozen_of_row u2 g1 0 _ _ hS2.row
           have e5 : u2.cell? ⟨g1, 5, none⟩ = some (.float .f64 E.time) := Joins.cell_of_block hS2.row 5
           clear ho2 hS2)
        | (go_at_call 34; refine (HUn2.out _).mono ?_; rintro x w' ⟨rfl, hw⟩; obtain rfl := hw.symm)
        | (go_at_call 38; refine (HFu.out _).mono ?_; rintro x u3 ⟨tz, rfl, hz, ho3⟩
           have HTz := Lib.hid (unix_teq hz)
           have hS3 := HS2.out.step ho3
           have HS3 := Lib.hid hS3
           clear e0
           clear f0 e5
           have e0 : u3.cell? ⟨g1, 0, none⟩ = some (.string (B (lastL E.path))) := Joins.cell_of_block hS3.row 0
           have f0 := frozen_of_row u3 g1 0 _ _ hS3.row
           have e2 : u3.cell? ⟨g1, 2, none⟩ = some (.int .i64 E.mode) := Joins.cell_of_block hS3.row 2
           have f2 := frozen_of_row u3 g1 2 _ _ hS3.row
           have e3 : u3.cell? ⟨g1, 3, none⟩ = some (.int .i64 E.uid) := Joins.cell_of_block hS3.row 3
           have f3 := frozen_of_row u3 g1 3 _ _ hS3.row
           have e4 : u3.cell? ⟨g1, 4, none⟩ = some (.int .i64 E.gid) := Joins.cell_of_block hS3.row 4
           have f4 := frozen_of_row u3 g1 4 _ _ hS3.row
           have e5 : u3.cell? ⟨g1, 5, none⟩ = some (.float .f64 E.time) := Joins.cell_of_block hS3.row 5
           have f5 := frozen_of_row u3 g1 5 _ _ hS3.row
           clear hz ho3 hS3))
      have HP := Lib.hid ((((HS3.out.put 5 (.float .f64 tz) { E with path := lastL E.path, time := tz } rfl).put 2 (.int .i64 420) { E with path := lastL E.path, time := tz, mode := 420 } rfl).put 3 (.int .i64 0) { E with path := lastL E.path, time := tz, mode := 420, uid := 0 } rfl).put 4 (.int .i64 0) { E with path := lastL E.path, time := tz, mode := 420, uid := 0, gid := 0 } rfl)
      change Code.wp Tryd.prog _ _ _ ((((u3.setCell ⟨g1, 5, none⟩ (.float .f64 tz)).setCell ⟨g1, 2, none⟩ (.int .i64 420)).setCell ⟨g1, 3, none⟩ (.int .i64 0)).setCell ⟨g1, 4, none⟩ (.int .i64 0))
      obtain ⟨V, hV⟩ : ∃ V, ((((u3.setCell ⟨g1, 5, none⟩ (.float .f64 tz)).setCell ⟨g1, 2, none⟩ (.int .i64 420)).setCell ⟨g1, 3, none⟩ (.int .i64 0)).setCell ⟨g1, 4, none⟩ (.int .i64 0)) = V := ⟨_, rfl⟩
      rw [hV] at HP ⊢
      clear hV e0 e2 e3 e4 e5 f0 f2 f3 f4 f5
      go_upto_region 17 with (go_at_call 39; refine (HNo.out _).mono ?_; rintro x u5 ⟨b, rfl, hb, ho5⟩
                              have HBn := Lib.hid hb
                              have hS5 := HP.out.step ho5
                              have HS5 := Lib.hid hS5
                              have e0 : u5.cell? ⟨g1, 0, none⟩ = some (.string (B (lastL E.path))) := Joins.cell_of_block hS5.row 0
                              have f0 := frozen_of_row u5 g1 0 _ _ hS5.row
                              have e5 : u5.cell? ⟨g1, 5, none⟩ = some (.float .f64 tz) := Joins.cell_of_block hS5.row 5
                              have f5 := frozen_of_row u5 g1 5 _ _ hS5.row
                              clear hb ho5 hS5)
      have HQ := Lib.hid ((HS5.out.put 0 (.string (B [100, 97, 116, 97])) { E with path := [100, 97, 116, 97], time := tz, mode := 420, uid := 0, gid := 0 } rfl).put 5 (.float .f64 b) { E with path := [100, 97, 116, 97], time := b, mode := 420, uid := 0, gid := 0 } rfl)
      go_wp2_with (first
        | ((with_reducible refine gate 51 rfl ?_); refine load_ent rfl _ rfl rfl HQ.out.row ?_)
        | ((with_reducible refine gate_store 25 rfl ?_); refine store_ent (cs0 := zrow) rfl rfl _ A c _ _ rfl rfl rfl HQ.out.res ?_; intro w8 hb8 ho8; have HL8 := Lib.hid (loadE hb8); have HO8 := Lib.hid ho8; clear hb8 ho8))
      refine bodyPost_ret (results_cell1 rfl rfl HL8.out) rfl ?_
      exact HQ.out.fin HO8.out (by rw [HT.out]; exact EqT.of rfl (Or.inr ⟨HBn.out, isN_nanW⟩))
  have t5 : (fm == 5) = false := beq_eq_false_iff_ne.mpr q5
  replace HT := Lib.hid (HT.out.trans (if_neg q5))
  have HP := HSO
  clear q5 e0 e2 e3 e4 e5 f0 f2 f3 f4 f5
  go_wp2_with (first
    | ((with_reducible refine gate 51 rfl ?_); refine load_ent rfl _ rfl rfl HP.out.row ?_)
    | ((with_reducible refine gate_store 25 rfl ?_); refine store_ent (cs0 := zrow) rfl rfl _ A c _ _ rfl rfl rfl HP.out.res ?_; intro w8 hb8 ho8; have HL8 := Lib.hid (loadE hb8); have HO8 := Lib.hid ho8; clear hb8 ho8))
  refine bodyPost_ret (results_cell1 rfl rfl HL8.out) rfl ?_
  exact HP.out.fin HO8.out (by rw [HT.out]; exact EqT.of rfl (TEq.rfl' _))
end Go.Proofs.YtdkfemmjoabbcaaDoor.Walks
namespace Go.Proofs.YtdkfemmjoabbcaaDoor.Walks
open Go Go.RowKit Go.Proofs.YtdkfemmjoabbcaaDoor.Aid Go.Proofs.YtdkfemmjoabbcaaDoor.Pth Go.Proofs.YtdkfemmjoabbcaaDoor.Own Go.Proofs.YtdkfemmjoabbcaaDoorW.PrintWords

/-- Two lists are alike, entry by entry. -/
def EqLs (a b : List Ent) : Prop := a.length = b.length ∧ ∀ i, i < a.length → EqT (a.getD i e0) (b.getD i e0)
theorem eqLs_nil : EqLs [] [] := ⟨rfl, fun i h => absurd h (by simp)⟩
theorem eqLs_snoc {a b : List Ent} {E F : Ent} (h : EqLs a b) (he : EqT E F) : EqLs (a ++ [E]) (b ++ [F]) := by
  refine ⟨by rw [List.length_append, List.length_append, h.1]; rfl, fun i hi => ?_⟩
  rw [List.length_append, List.length_singleton] at hi
  rw [List.getD_eq_getElem?_getD, List.getD_eq_getElem?_getD]
  by_cases c : i < a.length
  · rw [List.getElem?_append_left c, List.getElem?_append_left (by rw [← h.1]; exact c), ← List.getD_eq_getElem?_getD, ← List.getD_eq_getElem?_getD]
    exact h.2 i c
  · obtain rfl : i = a.length := by omega
    rw [List.getElem?_append_right (Nat.le_refl _), List.getElem?_append_right (by rw [h.1]; exact Nat.le_refl _), ← h.1, Nat.sub_self]
    exact he
def ListRPost (l : List Ent) (w : World) (x : Ending) (w' : World) : Prop := ∃ m A c M, x = .returned (.slice A m.length c) ∧ m.length ≤ c ∧ RdE w' A m M ∧ EqLs m l ∧ Only (fun _ => False) w w'
theorem ent_block {w : World} {E : Ent} {A : Option Addr} {c : Nat} (h : EntAt w E A c) {ad : Addr} (e : A = some ad) (h0 : 0 < E.data.length) : ad.block < w.heap.size := by
  obtain ⟨ad', e', hc⟩ := h.1 (by rw [ints_len]; exact h0)
  rw [e] at e'
  injection e' with e'
  subst e'
  have := World.block_lt_of_cell? w _ (hc 0 (by rw [ints_len]; exact h0))
  have hbl : (ad.add 0).block = ad.block := by unfold Addr.add; split <;> rfl
  rwa [hbl] at this
set_option maxRecDepth 100000 in
set_option maxHeartbeats 4000000 in
theorem rall_any {w : World} {A : Option Addr} {l : List Ent} {n c : Nat} {M : Nat → Option Addr × Nat} (fm : Int) (hn : l.length = n) (hl : n ≤ 100000) (hR : RdE w A l M) (hE : EsOk l) :
    Calls Tryd.prog 17 #[.slice A n c, .int .i64 fm] w (ListRPost (l.map (oneT · fm)) w) := by
  have HN := Lib.hid hn
  have HR := Lib.hid hR
  have HE := Lib.hid hE
  have b1 : n ≤ 100000 := hl
  clear hn hl hR hE
  go_enter Tryd.func17, Tryd.ntmps17
  go_wp2_with fail
  go_loopw [5, 6] (fun v5 v6 u => ∃ i : Nat, v6 = .int .i64 (i : Int) ∧ i ≤ n ∧ Hid (Only (fun _ => False) w u) ∧ ∃ es : List Ent3, Hid (OwnE w.heap.size u v5 es) ∧ Hid (EqLs (es.map (·.1)) ((l.take i).map (oneT · fm)))) (fun _ i _ => n - (intOf i).toNat)
  case atStart => exact ⟨0, rfl, by omega, Lib.hid (Only.refl _ _), [], Lib.hid (ownE_nil _ _), Lib.hid (by rw [List.take_zero]; exact eqLs_nil)⟩
  case round =>
    obtain ⟨i, rfl, hi, HU, es, HO, HEs⟩ := hrel
    by_cases ci : i < n
    · have e1 : decide ((i : Int) < (n : Int)) = true := decide_eq_true (by omega)
      have e1' : decide (i < n) = true := decide_eq_true ci
      have e2 : (i : Int) < (n : Int) := by omega
      have hil : i < l.length := by rw [HN.out]; exact ci
      have hen0 : EntAt w (l.getD i e0) (M i).1 (M i).2 := by obtain ⟨_, _, _, h⟩ := HR.out.at hil; exact h
      obtain ⟨ad, rfl, hat, hen⟩ := (HR.out.only HU.out).at hil
      have hEm : l.getD i e0 ∈ l := by rw [List.getD_eq_getElem?_getD, List.getElem?_eq_getElem hil]; exact List.getElem_mem hil
      have hEo := (HE.out _ hEm).1
      have HOn := Lib.hid (fun u => rone_any (l.getD i e0) (M i).1 (M i).2 fm u hEo)
      have HTk := Lib.hid (map_take_snoc (oneT · fm) (d := e0) hil)
      have HLe := Lib.hid (show es.length ≤ 100000 by
        have := HEs.out.1
        rw [List.length_map, List.length_map, List.length_take] at this
        omega)
      obtain ⟨E, hE⟩ : ∃ E, l.getD i e0 = E := ⟨_, rfl⟩
      obtain ⟨B1, hB1⟩ : ∃ B1, (M i).1 = B1 := ⟨_, rfl⟩
      obtain ⟨c1, hc1⟩ : ∃ c1, (M i).2 = c1 := ⟨_, rfl⟩
      rw [hE, hB1, hc1] at hat HOn hen hen0
      rw [hE] at HTk
      have HC := Lib.hid (show ∀ j v, (erow E B1 c1)[j]? = some v → wr.cell? ((ad.add (i * 8)).add j) = some v from hat)
      have HEn := Lib.hid hen
      have HE0 := Lib.hid hen0
      have HDt := Lib.hid (oneT_data E fm)
      clear hE hB1 hc1 hat hen hEm hEo hil hen0
      go_wp2_with (first
        | ((with_reducible refine gate 17 rfl ?_); refine load_entA rfl _ rfl rfl HC.out ?_)
        | (go_at_call 19; refine (HOn.out _).mono ?_; rintro x w4 ⟨F, rfl, hF, ho4⟩; have HF := Lib.hid hF; have HO4 := Lib.hid ho4; have HFd := Lib.hid (show F.data = E.data from hF.data.trans HDt.out); clear hF ho4)
        | ((with_reducible refine gate 20 rfl ?_)
           refine build1 rfl _ rfl (F, B1, c1) rfl (fun d hd => ?_) ?_
           · rw [List.mem_singleton.1 hd]
             exact ⟨by show RdU _ B1 F.data; rw [HFd.out]; exact (HEn.out.only HO4.out).1, by show F.data.length ≤ c1; rw [HFd.out]; exact HEn.out.2⟩
           intro b5 w5 hr5 ho5
           have HR5 := Lib.hid hr5
           have HO5 := Lib.hid (HO4.out.trans' ho5)
           clear hr5 ho5)
        | ((with_reducible refine gate 21 rfl ?_)
           refine ownE_append (base := w.heap.size) rfl _ _ rfl u5 es (F, B1, c1) b5 1 rfl rfl (ownE_only HO.out HO5.out) _ rfl HR5.out ?_ ?_ HLe.out ?_
           · intro ad9 e9 h9 h10
             have := (ownE_lt HO.out h10.symm).2
             have := ent_block HE0.out e9 (by rw [← HFd.out]; exact h9)
             omega
           · have := HU.out.size
             have := HO5.out.size
             omega
           intro v7 w7 hO7 ho7
           have HO7 := Lib.hid hO7
           have HU7 := Lib.hid ((HU.out.trans' HO5.out).trans ho7 (fun k hk => Or.inr hk))
           clear hO7 ho7))
      exact ⟨⟨i + 1, by simp, by omega, HU7, _, HO7, Lib.hid (by rw [List.map_append, HTk.out]; exact eqLs_snoc HEs.out HF.out)⟩, by simp [intOf]; omega⟩
    · have e1 : decide ((i : Int) < (n : Int)) = false := decide_eq_false (by omega)
      have e1' : decide (i < n) = false := decide_eq_false ci
      obtain rfl : i = n := by omega
      have hrd := ownE_rd HO.out
      have heq : EqLs (es.map (·.1)) (l.map (oneT · fm)) := by have := HEs.out; rwa [← HN.out, List.take_length] at this
      obtain ⟨A9, c9, hv9, hc9, hr9⟩ := hrd
      have HPost := Lib.hid (show ListRPost (l.map (oneT · fm)) w (.returned u5) wr from ⟨es.map (·.1), A9, c9, _, by rw [hv9, List.length_map], by rw [List.length_map]; exact hc9, hr9, heq, HU.out⟩)
      clear hv9 hc9 hr9 heq
      go_wp2_with fail
      go_ret
      exact HPost.out
end Go.Proofs.YtdkfemmjoabbcaaDoor.Walks
