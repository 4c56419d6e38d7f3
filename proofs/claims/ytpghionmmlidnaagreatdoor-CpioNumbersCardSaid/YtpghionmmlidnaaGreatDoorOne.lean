/- Contract of project.One. -/
import Derived.Test.YtpghionmmlidnaaGreatDoorFlr
namespace Go.Proofs.YtpghionmmlidnaaGreatDoor.Walks
open Go Go.RowKit Go.Proofs.YtpghionmmlidnaaGreatDoor.Aid Go.Proofs.YtpghionmmlidnaaGreatDoor.Pth Go.Proofs.YtpghionmmlidnaaGreatDoor.Own Go.Proofs.YtpghionmmlidnaaGreatDoorW.PrintWords

/-- An entry as a format holds it; tz: its time as zip holds it. -/
def oneL (E : Ent) (fm : Int) (tz : Nat) : Ent :=
  if fm = 2 then { E with time := fineF E.time }
  else if fm = 3 then { E with time := floatOfInt .f64 (unixF E.time) }
  else if fm = 1 then { E with time := tz, uid := 0, gid := 0 }
  else if fm = 4 then { E with path := if rightL E.path then lastL E.path else E.path, time := fromUnixF (unixF E.time), mode := 420, uid := 0, gid := 0 }
  else if fm = 5 then { E with path := [100, 97, 116, 97], time := nanW, mode := 420, uid := 0, gid := 0 }
  else E
def OnePost (E : Ent) (w : World) (x : Ending) (w' : World) : Prop := ∃ A c, x = .returned (eval E A c) ∧ EntAt w' E A c ∧ Only (fun _ => False) w w' ∧ ∀ ad, A = some ad → 0 < E.data.length → w.heap.size ≤ ad.block
theorem own_nilB (base : Nat) (w : World) : Own.Own base w (.slice none 0 0) [] := Kd.R_nil _ _ _ _ _
theorem own_capB {base : Nat} {w : World} {A : Option Addr} {n cap : Nat} {l : List Int} (h : Own base w (.slice A n cap) l) : l.length = n ∧ n ≤ cap := by
  obtain ⟨A', c, e, hc, _⟩ := Kd.R_reads h
  injection e with e1 e2 e3
  subst e2 e3
  exact ⟨rfl, hc⟩
theorem block_add (a : Addr) (j : Nat) : (a.add j).block = a.block := by unfold Addr.add; split <;> rfl
theorem RdU.apart {w w' : World} {A : Option Addr} {l : Str} {g : Nat} (h : RdU w A l) (ho : Only (fun k => k = g) w w') (hb : ∀ ad, A = some ad → 0 < l.length → ad.block ≠ g) : RdU w' A l := fun h0 => by
  obtain ⟨ad, e, hc⟩ := h h0
  have h1 : 0 < l.length := by rw [ints_len] at h0; exact h0
  exact ⟨ad, e, fun j hj => ho.cell (hc j hj) (by rw [block_add]; exact hb ad e h1)⟩
theorem own_block {base : Nat} {w : World} {A : Option Addr} {n cap : Nat} {l : List Int} (h : Own.Own base w (.slice A n cap) l) : ∀ ad, A = some ad → 0 < l.length → base ≤ ad.block := fun ad e h0 => by
  obtain ⟨g, c2, e2, hg⟩ := Own.Own.form h h0
  injection e2 with e3 _ _
  rw [e] at e3
  injection e3 with e3
  rw [e3]; exact hg
def zrow : Array Value := #[.string ⟨#[]⟩, .int .i64 0, .int .i64 0, .int .i64 0, .int .i64 0, .float .f64 0, .string ⟨#[]⟩, .slice none 0 0]
/-- The state behind the first line: the entry in block g1, the result's variable in block g2, the data in blocks of their own. -/
structure OneSt (w : World) (g1 g2 : Nat) (E : Ent) (A : Option Addr) (c : Nat) (u : World) : Prop where
  row : u.heap[g1]? = some (.cells (erow E A c) 47 (0, 0))
  res : u.heap[g2]? = some (.cells zrow 47 (0, 0))
  rd : RdU u A E.data
  cap : E.data.length ≤ c
  far : ∀ ad, A = some ad → 0 < E.data.length → ad.block ≠ g1 ∧ ad.block ≠ g2
  only : Only (fun _ => False) w u
  ne : g2 ≠ g1
  old : w.heap.size ≤ g1 ∧ w.heap.size ≤ g2
  new : ∀ ad, A = some ad → 0 < E.data.length → w.heap.size ≤ ad.block
theorem only_put (w : World) (g i : Nat) (v : Value) : Only (fun k => k = g) w (w.setCell ⟨g, i, none⟩ v) := (Only.refl (fun k => k = g) w).setCell (S := fun k => k = g) (p := ⟨g, i, none⟩) (Or.inl rfl) v
theorem results_cell1 {fn : Func} {t : Tmp} {ty : TypeId} (h : fn.results = #[.cell t ty]) {tmps : Array Value} {P : Program} {w : World} {a : Addr} {v : Value} (ha : tmps.getD t undef = .pointer (some a))
    (hl : (loadVar ty a).run P w = .ok v w) : (results fn tmps).run P w = .ok v w := by
  have ha' : tmps[t]?.getD undef = .pointer (some a) := by simpa using ha
  simp [results, h, asAddr, ha', hl]
section
variable {w u : World} {g1 g2 : Nat} {E : Ent} {A : Option Addr} {c : Nat}
theorem OneSt.put (h : OneSt w g1 g2 E A c u) (i : Nat) (v : Value) (E' : Ent) (he : (erow E A c).setIfInBounds i v = erow E' A c) (hd : E'.data = E.data) : OneSt w g1 g2 E' A c (u.setCell ⟨g1, i, none⟩ v) :=
  ⟨by rw [heap_setCell_same u g1 i _ _ v h.row, he], by rw [heap_setCell_other u ⟨g1, i, none⟩ g2 v h.ne]; exact h.res, by rw [hd]; exact RdU.apart h.rd (only_put u g1 i v) (fun ad e h0 => (h.far ad e h0).1), by rw [hd]; exact h.cap,
    fun ad e h0 => h.far ad e (by rw [← hd]; exact h0), h.only.trans (only_put u g1 i v) (fun k hk => Or.inr (by rw [hk]; exact h.old.1)), h.ne, h.old, fun ad e h0 => h.new ad e (by rw [← hd]; exact h0)⟩
theorem OneSt.step {u' : World} (h : OneSt w g1 g2 E A c u) (ho : Only (fun _ => False) u u') : OneSt w g1 g2 E A c u' :=
  ⟨ho.keeps h.row id, ho.keeps h.res id, h.rd.only ho, h.cap, h.far, h.only.trans' ho, h.ne, h.old, h.new⟩
theorem OneSt.fin {w1 : World} (h : OneSt w g1 g2 E A c u) (ho : Only (fun k => k = g2) u w1) : OnePost E w (.returned (eval E A c)) w1 :=
  ⟨A, c, rfl, ⟨RdU.apart h.rd ho (fun ad e h0 => (h.far ad e h0).2), h.cap⟩, h.only.trans ho (fun k hk => Or.inr (by rw [hk]; exact h.old.2)), h.new⟩
end
theorem run_store_float (P : Program) (w : World) (a : Addr) (m : Mode) (k : FloatKind) (b : Nat) : (store a (.float k b) m).run P w = stored P w a (.float k b) m := run_store P w a _ m rfl
attribute [local go_sem] run_store_float
set_option maxRecDepth 100000 in
set_option maxHeartbeats 4000000 in
theorem one_any (E : Ent) (A : Option Addr) (c : Nat) (fm : Int) (w : World) (hE : EOk E) (hm : MaxLen w) (hA : EntAt w E A c) (hf : fm = 2 → FineOk E.time) (hu : fm = 3 ∨ fm = 4 → UnixOk E.time) (tz : Nat)
    (hz : fm = 1 → ∃ v : Int, (∀ u, Calls Tryz.prog 52 #[.float .f64 E.time] u (fun r u' => r = .returned (.int .i64 v) ∧ Only (fun _ => False) u u')) ∧ (∀ u, Calls Tryz.prog 51 #[.int .i64 v] u (fun r u' => r = .returned (.float .f64 tz) ∧ Only (fun _ => False) u u'))) :
    Calls Tryz.prog 25 #[eval E A c, .int .i64 fm] w (OnePost (oneL E fm tz) w) := by
  have HE := Lib.hid hE
  have HD := Lib.hid hA
  have HFi := Lib.hid (fun h u => fine_any u E.time (hf h))
  have HUn := Lib.hid (fun h u => unix_any u E.time (hu h))
  have HZ := Lib.hid hz
  have HM := Lib.hid hm
  obtain ⟨R, hR⟩ : ∃ R, oneL E fm tz = R := ⟨_, rfl⟩
  have HT := Lib.hid (show R = (if fm = 2 then { E with time := fineF E.time }
    else if fm = 3 then { E with time := floatOfInt .f64 (unixF E.time) }
    else if fm = 1 then { E with time := tz, uid := 0, gid := 0 }
    else if fm = 4 then { E with path := if rightL E.path then lastL E.path else E.path, time := fromUnixF (unixF E.time), mode := 420, uid := 0, gid := 0 }
    else if fm = 5 then { E with path := [100, 97, 116, 97], time := nanW, mode := 420, uid := 0, gid := 0 }
    else E) from hR.symm)
  rw [hR]
  obtain ⟨n, hn⟩ : ∃ n, E.data.length = n := ⟨_, rfl⟩
  have HN := Lib.hid hn
  clear hE hA hf hn hu hz hm hR
  go_enter Tryz.func25, Tryz.ntmps25
  go_upto_region 1 with (fail)
  change Code.wp Tryz.prog _ _ _ ((w.alloc (.cells (erow E A c) 47)).alloc (.cells zrow 47))
  have hO1 := (Only.refl (fun _ => False) w).alloc (.cells (erow E A c) 47)
  have hB1 := alloc_new w (.cells (erow E A c) 47)
  obtain ⟨g1, hg1⟩ : ∃ g1, w.heap.size = g1 := ⟨_, rfl⟩
  obtain ⟨W0, hW0⟩ : ∃ W0, w.alloc (.cells (erow E A c) 47) = W0 := ⟨_, rfl⟩
  have hs0 : W0.heap.size = g1 + 1 := by rw [← hW0, ← hg1]; exact Array.size_push _
  rw [hg1, hW0] at hB1
  rw [hW0] at hO1 ⊢
  have hO2 := (Only.refl (fun _ => False) W0).alloc (.cells zrow 47)
  have hB2 := alloc_new W0 (.cells zrow 47)
  rw [hs0] at hB2
  replace hB1 := hO2.keeps hB1 id
  obtain ⟨W, hW⟩ : ∃ W, W0.alloc (.cells zrow 47) = W := ⟨_, rfl⟩
  rw [hW] at hO2 hB1 hB2 ⊢
  have hO := hO1.trans' hO2
  have HO := Lib.hid hO
  have HDW := Lib.hid (HD.out.only hO)
  have HB1 := Lib.hid hB1
  have HB2 := Lib.hid hB2
  have c7 : W.cell? ⟨g1, 7, none⟩ = some (.slice A E.data.length c) := Joins.cell_of_block hB1 7
  rw [HN.out] at c7
  rw [hg1]
  obtain ⟨g2, hg2⟩ : ∃ g2, g1 + 1 = g2 := ⟨_, rfl⟩
  have HNE := Lib.hid (show g2 ≠ g1 by omega)
  have HG12 := Lib.hid (show g2 = g1 + 1 from hg2.symm)
  have HSZ := Lib.hid (show W.heap.size = g2 + 1 by rw [← hW, ← hg2, ← hs0]; exact Array.size_push _)
  have HGE := Lib.hid (show w.heap.size ≤ g1 ∧ w.heap.size ≤ g2 by omega)
  rw [hg2] at HB2 ⊢
  clear hO1 hO2 hB1 hB2 hO hW0 hW hs0 hg1 hg2
  clear W0
  go_upto_region 2 with (first | (with_reducible refine gate 7 rfl ?_
                                  refine own_append (base := W.heap.size) (w0 := W) rfl _ (.tmp 6) rfl _ [] (ints E.data) A c rfl (by show Value.slice A n c = Value.slice A (ints E.data).length c; rw [ints_len, HN.out]) (own_nilB _ _) HDW.out.1 (Below.refl _ _) (Nat.le_refl _) (by rw [ints_len]; exact Nat.le_trans (Nat.le_of_eq (Nat.zero_add _)) HE.out.data) ?_
                                  intro v5 w5 hO5 hB5 hs5
                                  have hU5 := Only.of_below hB5 (fun _ => False)
                                  have HU := Lib.hid (HO.out.trans' hU5)
                                  obtain ⟨A5, c5, e5, hR5⟩ := hO5.rd
                                  have HR5 := Lib.hid hR5
                                  rw [List.nil_append, ints_len, HN.out] at e5
                                  subst e5
                                  have HC5 := Lib.hid (own_capB hO5).2
                                  have HF5 := Lib.hid (own_block hO5)
                                  have hb5 := hU5.keeps HB1.out id
                                  have HB5 := Lib.hid hb5
                                  have HB6 := Lib.hid (hU5.keeps HB2.out id)
                                  have d7 : w5.cell? ⟨g1, 7, none⟩ = some (.slice A E.data.length c) := Joins.cell_of_block hb5 7
                                  have f7 := frozen_of_row w5 g1 7 _ _ hb5
                                  clear hO5 hB5 hs5 hU5 hR5 hb5 c7))
  have HS : OneSt w g1 g2 E A5 c5 (w5.setCell ⟨g1, 7, none⟩ (.slice A5 n c5)) := by
    have hR : RdU w5 A5 E.data := by have := HR5.out; rw [List.nil_append] at this; exact this
    have hf : ∀ ad, A5 = some ad → 0 < E.data.length → W.heap.size ≤ ad.block := fun ad e h0 => HF5.out ad e (by rw [List.nil_append, ints_len]; exact h0)
    have hsz := HSZ.out
    have hfar : ∀ ad, A5 = some ad → 0 < E.data.length → ad.block ≠ g1 ∧ ad.block ≠ g2 := fun ad e h0 => by
      have := hf ad e h0
      have := HG12.out
      omega
    have hn := HN.out
    subst hn
    exact ⟨heap_setCell_same w5 g1 7 _ _ _ HB5.out, by rw [heap_setCell_other w5 ⟨g1, 7, none⟩ g2 _ HNE.out]; exact HB6.out, RdU.apart hR (only_put w5 g1 7 _) (fun ad e h0 => (hfar ad e h0).1), HC5.out, hfar,
      HU.out.trans (only_put w5 g1 7 _) (fun k hk => Or.inr (by rw [hk]; exact HGE.out.1)), HNE.out, HGE.out, fun ad e h0 => by
        have := hf ad e h0
        have := HGE.out
        omega⟩
  obtain ⟨W6, hW6⟩ : ∃ W6, w5.setCell ⟨g1, 7, none⟩ (.slice A5 n c5) = W6 := ⟨_, rfl⟩
  rw [hW6] at HS ⊢
  have HST := Lib.hid HS
  have HSO := Lib.hid HS
  clear hW6 d7 f7 HB5 HB6 HR5 HC5 HF5 HU HO HDW HB1 HB2 HNE HSZ HGE HN HD HG12
  clear w5 W
  have e0 : W6.cell? ⟨g1, 0, none⟩ = some (.string (B E.path)) := Joins.cell_of_block HS.row 0
  have e2 : W6.cell? ⟨g1, 2, none⟩ = some (.int .i64 E.mode) := Joins.cell_of_block HS.row 2
  have e3 : W6.cell? ⟨g1, 3, none⟩ = some (.int .i64 E.uid) := Joins.cell_of_block HS.row 3
  have e4 : W6.cell? ⟨g1, 4, none⟩ = some (.int .i64 E.gid) := Joins.cell_of_block HS.row 4
  have e5 : W6.cell? ⟨g1, 5, none⟩ = some (.float .f64 E.time) := Joins.cell_of_block HS.row 5
  have f0 := frozen_of_row W6 g1 0 _ _ HS.row
  have f2 := frozen_of_row W6 g1 2 _ _ HS.row
  have f3 := frozen_of_row W6 g1 3 _ _ HS.row
  have f4 := frozen_of_row W6 g1 4 _ _ HS.row
  have f5 := frozen_of_row W6 g1 5 _ _ HS.row
  clear HS
  by_cases q2 : fm = 2
  · have t2 : (fm == 2) = true := beq_iff_eq.mpr q2
    replace HT := Lib.hid (HT.out.trans (if_pos q2))
    have HFi2 := Lib.hid (HFi.out q2)
    have HP := Lib.hid (HSO.out.put 5 (.float .f64 (fineF E.time)) { E with time := fineF E.time } rfl rfl)
    clear HUn HZ HFi q2 e0 e2 e3 e4 f0 f2 f3 f4
    go_wp2_with (first
      | (go_at_call 50; refine (HFi2.out _).mono ?_; rintro x w' ⟨rfl, rfl⟩)
      | ((with_reducible refine gate 57 rfl ?_); refine load_ent rfl _ rfl rfl HP.out.row ?_)
      | ((with_reducible refine gate_store 47 rfl ?_); refine store_ent (cs0 := zrow) rfl rfl _ A5 c5 _ _ rfl rfl rfl HP.out.res ?_; intro w8 hb8 ho8; have HL8 := Lib.hid (loadE hb8); have HO8 := Lib.hid ho8; clear hb8 ho8))
    refine bodyPost_ret (results_cell1 rfl rfl HL8.out) rfl ?_
    rw [HT.out]
    exact HP.out.fin HO8.out
  have t2 : (fm == 2) = false := beq_eq_false_iff_ne.mpr q2
  replace HT := Lib.hid (HT.out.trans (if_neg q2))
  clear q2 HFi
  by_cases q3 : fm = 3
  · have t3 : (fm == 3) = true := beq_iff_eq.mpr q3
    replace HT := Lib.hid (HT.out.trans (if_pos q3))
    have HUn2 := Lib.hid (HUn.out (Or.inl q3))
    have HP := Lib.hid (HSO.out.put 5 (.float .f64 (floatOfInt .f64 (unixF E.time))) { E with time := floatOfInt .f64 (unixF E.time) } rfl rfl)
    clear HUn HZ q3 e0 e2 e3 e4 f0 f2 f3 f4
    go_wp2_with (first
      | (go_at_call 27; refine (HUn2.out _).mono ?_; rintro x w' ⟨rfl, rfl⟩)
      | ((with_reducible refine gate 57 rfl ?_); refine load_ent rfl _ rfl rfl HP.out.row ?_)
      | ((with_reducible refine gate_store 47 rfl ?_); refine store_ent (cs0 := zrow) rfl rfl _ A5 c5 _ _ rfl rfl rfl HP.out.res ?_; intro w8 hb8 ho8; have HL8 := Lib.hid (loadE hb8); have HO8 := Lib.hid ho8; clear hb8 ho8))
    refine bodyPost_ret (results_cell1 rfl rfl HL8.out) rfl ?_
    rw [HT.out]
    exact HP.out.fin HO8.out
  have t3 : (fm == 3) = false := beq_eq_false_iff_ne.mpr q3
  replace HT := Lib.hid (HT.out.trans (if_neg q3))
  clear q3
  by_cases q1 : fm = 1
  · have t1 : (fm == 1) = true := beq_iff_eq.mpr q1
    replace HT := Lib.hid (HT.out.trans (if_pos q1))
    obtain ⟨v, hz1, hz2⟩ := HZ.out q1
    have HZ1 := Lib.hid hz1
    have HZ2 := Lib.hid hz2
    clear HUn HZ q1 hz1 hz2 e0 e2 e3 e4 f0 f2 f3 f4 f5
    go_upto_region 9 with (first
      | (go_at_call 52; refine (HZ1.out _).mono ?_; rintro x u1 ⟨rfl, ho1⟩
         have HS1 := Lib.hid (HSO.out.step ho1)
         clear ho1)
      | (go_at_call 51; refine (HZ2.out _).mono ?_; rintro x u2 ⟨rfl, ho2⟩
         have hS2 := HS1.out.step ho2
         have HS2 := Lib.hid hS2
         have e3 : u2.cell? ⟨g1, 3, none⟩ = some (.int .i64 E.uid) := Joins.cell_of_block hS2.row 3
         have f3 := frozen_of_row u2 g1 3 _ _ hS2.row
         have e4 : u2.cell? ⟨g1, 4, none⟩ = some (.int .i64 E.gid) := Joins.cell_of_block hS2.row 4
         have f4 := frozen_of_row u2 g1 4 _ _ hS2.row
         have e5 : u2.cell? ⟨g1, 5, none⟩ = some (.float .f64 E.time) := Joins.cell_of_block hS2.row 5
         have f5 := frozen_of_row u2 g1 5 _ _ hS2.row
         clear ho2 hS2))
    have HP := Lib.hid (((HS2.out.put 5 (.float .f64 tz) { E with time := tz } rfl rfl).put 3 (.int .i64 0) { E with time := tz, uid := 0 } rfl rfl).put 4 (.int .i64 0) { E with time := tz, uid := 0, gid := 0 } rfl rfl)
    go_wp2_with (first
      | ((with_reducible refine gate 57 rfl ?_); refine load_ent rfl _ rfl rfl HP.out.row ?_)
      | ((with_reducible refine gate_store 47 rfl ?_); refine store_ent (cs0 := zrow) rfl rfl _ A5 c5 _ _ rfl rfl rfl HP.out.res ?_; intro w8 hb8 ho8; have HL8 := Lib.hid (loadE hb8); have HO8 := Lib.hid ho8; clear hb8 ho8))
    refine bodyPost_ret (results_cell1 rfl rfl HL8.out) rfl ?_
    rw [HT.out]
    exact HP.out.fin HO8.out
  have t1 : (fm == 1) = false := beq_eq_false_iff_ne.mpr q1
  replace HT := Lib.hid (HT.out.trans (if_neg q1))
  clear q1 HZ
  by_cases q4 : fm = 4
  · have t4 : (fm == 4) = true := beq_iff_eq.mpr q4
    replace HT := Lib.hid (HT.out.trans (if_pos q4))
    have HUn2 := Lib.hid (HUn.out (Or.inr q4))
    have HRt := Lib.hid (fun u (h : MaxLen u) => (right_any (B E.path) u (by rw [B_size]; exact HE.out.path) h))
    have HLt := Lib.hid (fun u (h : MaxLen u) => (last_any (B E.path) u (by rw [B_size]; exact HE.out.path) h))
    rw [B_data] at HRt HLt
    obtain ⟨rb, hrb⟩ : ∃ rb, rightL E.path = rb := ⟨_, rfl⟩
    rw [hrb] at HRt HT
    clear HUn q4 e2 e3 e4 e5 f0 f2 f3 f4 f5 hrb
    cases rb
    · go_upto_region 14 with (first
        | (go_at_call 53; refine (HRt.out _ (HM.out.only HSO.out.only)).mono ?_; rintro x u1 ⟨rfl, ho1⟩
           have hS1 := HSO.out.step ho1
           have HS1 := Lib.hid hS1
           have e2 : u1.cell? ⟨g1, 2, none⟩ = some (.int .i64 E.mode) := Joins.cell_of_block hS1.row 2
           have f2 := frozen_of_row u1 g1 2 _ _ hS1.row
           have e3 : u1.cell? ⟨g1, 3, none⟩ = some (.int .i64 E.uid) := Joins.cell_of_block hS1.row 3
           have f3 := frozen_of_row u1 g1 3 _ _ hS1.row
           have e4 : u1.cell? ⟨g1, 4, none⟩ = some (.int .i64 E.gid) := Joins.cell_of_block hS1.row 4
           have f4 := frozen_of_row u1 g1 4 _ _ hS1.row
           have e5 : u1.cell? ⟨g1, 5, none⟩ = some (.float .f64 E.time) := Joins.cell_of_block hS1.row 5
           have f5 := frozen_of_row u1 g1 5 _ _ hS1.row
           clear ho1 hS1)
        | (go_at_call 27; refine (HUn2.out _).mono ?_; rintro x w' ⟨rfl, rfl⟩)
        | (go_at_call 55; refine (fromUnix_any _ _).mono ?_; rintro x w' ⟨rfl, rfl⟩))
      have HP := Lib.hid ((((HS1.out.put 5 (.float .f64 (fromUnixF (unixF E.time))) { E with time := fromUnixF (unixF E.time) } rfl rfl).put 2 (.int .i64 420) { E with time := fromUnixF (unixF E.time), mode := 420 } rfl rfl).put 3 (.int .i64 0) { E with time := fromUnixF (unixF E.time), mode := 420, uid := 0 } rfl rfl).put 4 (.int .i64 0) { E with time := fromUnixF (unixF E.time), mode := 420, uid := 0, gid := 0 } rfl rfl)
      go_wp2_with (first
        | ((with_reducible refine gate 57 rfl ?_); refine load_ent rfl _ rfl rfl HP.out.row ?_)
        | ((with_reducible refine gate_store 47 rfl ?_); refine store_ent (cs0 := zrow) rfl rfl _ A5 c5 _ _ rfl rfl rfl HP.out.res ?_; intro w8 hb8 ho8; have HL8 := Lib.hid (loadE hb8); have HO8 := Lib.hid ho8; clear hb8 ho8))
      refine bodyPost_ret (results_cell1 rfl rfl HL8.out) rfl ?_
      rw [HT.out]
      exact HP.out.fin HO8.out
    · go_upto_region 14 with (first
        | (go_at_call 53; refine (HRt.out _ (HM.out.only HSO.out.only)).mono ?_; rintro x u1 ⟨rfl, ho1⟩
           have hS1 := HSO.out.step ho1
           have HS1 := Lib.hid hS1
           replace e0 : u1.cell? ⟨g1, 0, none⟩ = some (.string (B E.path)) := Joins.cell_of_block hS1.row 0
           clear ho1 hS1)
        | (go_at_call 54; refine (HLt.out _ (HM.out.only HS1.out.only)).mono ?_; rintro x u2 ⟨rfl, ho2⟩
           have hS2 := HS1.out.step ho2
           have HS2 := Lib.hid hS2
           clear e0
           have e0 : u2.cell? ⟨g1, 0, none⟩ = some (.string (B E.path)) := Joins.cell_of_block hS2.row 0
           have f0 := frozen_of_row u2 g1 0 _ _ hS2.row
           have e2 : u2.cell? ⟨g1, 2, none⟩ = some (.int .i64 E.mode) := Joins.cell_of_block hS2.row 2
           have f2 := frozen_of_row u2 g1 2 _ _ hS2.row
           have e3 : u2.cell? ⟨g1, 3, none⟩ = some (.int .i64 E.uid) := Joins.cell_of_block hS2.row 3
           have f3 := frozen_of_row u2 g1 3 _ _ hS2.row
           have e4 : u2.cell? ⟨g1, 4, none⟩ = some (.int .i64 E.gid) := Joins.cell_of_block hS2.row 4
           have f4 := frozen_of_row u2 g1 4 _ _ hS2.row
           have e5 : u2.cell? ⟨g1, 5, none⟩ = some (.float .f64 E.time) := Joins.cell_of_block hS2.row 5
           have f5 := frozen_of_row u2 g1 5 _ _ hS2.row
           clear ho2 hS2)
        | (go_at_call 27; refine (HUn2.out _).mono ?_; rintro x w' ⟨rfl, rfl⟩)
        | (go_at_call 55; refine (fromUnix_any _ _).mono ?_; rintro x w' ⟨rfl, rfl⟩))
      have HP := Lib.hid (((((HS2.out.put 0 (.string (B (lastL E.path))) { E with path := lastL E.path } rfl rfl).put 5 (.float .f64 (fromUnixF (unixF E.time))) { E with path := lastL E.path, time := fromUnixF (unixF E.time) } rfl rfl).put 2 (.int .i64 420) { E with path := lastL E.path, time := fromUnixF (unixF E.time), mode := 420 } rfl rfl).put 3 (.int .i64 0) { E with path := lastL E.path, time := fromUnixF (unixF E.time), mode := 420, uid := 0 } rfl rfl).put 4 (.int .i64 0) { E with path := lastL E.path, time := fromUnixF (unixF E.time), mode := 420, uid := 0, gid := 0 } rfl rfl)
      go_wp2_with (first
        | ((with_reducible refine gate 57 rfl ?_); refine load_ent rfl _ rfl rfl HP.out.row ?_)
        | ((with_reducible refine gate_store 47 rfl ?_); refine store_ent (cs0 := zrow) rfl rfl _ A5 c5 _ _ rfl rfl rfl HP.out.res ?_; intro w8 hb8 ho8; have HL8 := Lib.hid (loadE hb8); have HO8 := Lib.hid ho8; clear hb8 ho8))
      refine bodyPost_ret (results_cell1 rfl rfl HL8.out) rfl ?_
      rw [HT.out]
      exact HP.out.fin HO8.out
  have t4 : (fm == 4) = false := beq_eq_false_iff_ne.mpr q4
  replace HT := Lib.hid (HT.out.trans (if_neg q4))
  clear q4 HUn HM
  by_cases q5 : fm = 5
  · have t5 : (fm == 5) = true := beq_iff_eq.mpr q5
    replace HT := Lib.hid (HT.out.trans (if_pos q5))
    have HP := Lib.hid (((((HSO.out.put 0 (.string (B [100, 97, 116, 97])) { E with path := [100, 97, 116, 97] } rfl rfl).put 5 (.float .f64 nanW) { E with path := [100, 97, 116, 97], time := nanW } rfl rfl).put 2 (.int .i64 420) { E with path := [100, 97, 116, 97], time := nanW, mode := 420 } rfl rfl).put 3 (.int .i64 0) { E with path := [100, 97, 116, 97], time := nanW, mode := 420, uid := 0 } rfl rfl).put 4 (.int .i64 0) { E with path := [100, 97, 116, 97], time := nanW, mode := 420, uid := 0, gid := 0 } rfl rfl)
    clear q5
    go_wp2_with (first
      | (go_at_call 56; refine (nan_any _).mono ?_; rintro x w' ⟨rfl, rfl⟩)
      | ((with_reducible refine gate 57 rfl ?_); refine load_ent rfl _ rfl rfl HP.out.row ?_)
      | ((with_reducible refine gate_store 47 rfl ?_); refine store_ent (cs0 := zrow) rfl rfl _ A5 c5 _ _ rfl rfl rfl HP.out.res ?_; intro w8 hb8 ho8; have HL8 := Lib.hid (loadE hb8); have HO8 := Lib.hid ho8; clear hb8 ho8))
    refine bodyPost_ret (results_cell1 rfl rfl HL8.out) rfl ?_
    rw [HT.out]
    exact HP.out.fin HO8.out
  have t5 : (fm == 5) = false := beq_eq_false_iff_ne.mpr q5
  replace HT := Lib.hid (HT.out.trans (if_neg q5))
  have HP := HSO
  clear q5 e0 e2 e3 e4 e5 f0 f2 f3 f4 f5
  go_wp2_with (first
    | ((with_reducible refine gate 57 rfl ?_); refine load_ent rfl _ rfl rfl HP.out.row ?_)
    | ((with_reducible refine gate_store 47 rfl ?_); refine store_ent (cs0 := zrow) rfl rfl _ A5 c5 _ _ rfl rfl rfl HP.out.res ?_; intro w8 hb8 ho8; have HL8 := Lib.hid (loadE hb8); have HO8 := Lib.hid ho8; clear hb8 ho8))
  refine bodyPost_ret (results_cell1 rfl rfl HL8.out) rfl ?_
  rw [HT.out]
  exact HP.out.fin HO8.out
end Go.Proofs.YtpghionmmlidnaaGreatDoor.Walks
