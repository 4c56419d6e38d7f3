/- Contracts of the reference's begins and ReadZ. -/
import Derived.Test.YtgleehnmnmmdcaaDoorLawStays
namespace Go.Proofs.YtgleehnmnmmdcaaDoor.Walks
open Go Go.RowKit Go.Proofs.YtgleehnmnmmdcaaDoor.Aid Go.Proofs.YtgleehnmnmmdcaaDoor.Own

theorem pre_str {l m : List Int} (bl : Bytes l) (bm : Bytes m) (h : m.length ≤ l.length) : ((strOfNums (l.take m.length)).toList == (strOfNums m).toList) = pre m l := by
  rw [str_eq]
  unfold pre
  exact decide_eq_decide.mpr ⟨fun e => ⟨h, (str_inj (Bytes.take bl _) bm).1 e⟩, fun e => (str_inj (Bytes.take bl _) bm).2 e.2⟩
theorem rbegins_any {w : World} {A : Option Addr} {l m : List Int} {c : Nat} (S : ByteArray) (hS : S = strOfNums m) (hc : l.length ≤ c) (hA : RdK .u8 w A l) (bl : Bytes l) (bm : Bytes m) :
    Calls Tryd.prog 17 #[.slice A l.length c, .string S] w fun x w' => x = .returned (.bool (pre m l)) ∧ ∃ k, w' = w.drewN k := by
  have hs : S.size = m.length := by rw [hS, strOfNums_size]
  have HS := Lib.hid hs
  by_cases h : m.length ≤ l.length
  · have d1 : decide (S.size ≤ l.length) = true := decide_eq_true (by omega)
    have q1 : S.size ≤ c := by omega
    have q2 : S.size ≤ l.length := by omega
    have s1 := str_at S.size c (RdK.take hA S.size) (by rw [List.length_take]; omega)
    have HP := Lib.hid (pre_str bl bm h)
    have hT : strOfNums (l.take m.length) = strOfNums (l.take S.size) := by rw [hs]
    rw [hT, ← hS] at HP
    generalize strOfNums (l.take S.size) = T at *
    clear hA bl bm hS hs hc h
    obtain ⟨b, hb⟩ : ∃ b, (T.toList == S.toList) = b := ⟨_, rfl⟩
    have HP2 := Lib.hid (hb.symm.trans HP.out)
    go_enter Tryd.func17, Tryd.ntmps17
    go_wp2_with fail
    go_ret
    exact ⟨by rw [← HP2.out]; rfl, 0, rfl⟩
  · have d1 : decide (S.size ≤ l.length) = false := decide_eq_false (by omega)
    have HP := Lib.hid (show pre m l = false from decide_eq_false (fun e => h e.1))
    clear hA bl bm hS hs hc h
    go_enter Tryd.func17, Tryd.ntmps17
    go_wp2_with fail
    go_ret
    exact ⟨by rw [HP.out]; rfl, 0, rfl⟩
def ReadZPost (l : List Int) (w : World) (x : Ending) (w' : World) : Prop := ∃ a e, x = .returned (.tuple #[.int .i64 a, .int .i64 e]) ∧ (e == 0) = zlibOf l ∧ ∃ k, w' = w.drewN k
theorem zlib_bytes {l : List Int} {x y : Int} (h : 2 ≤ l.length) (hx : l.getD 0 0 = x) (hy : l.getD 1 0 = y) (b0 : 0 ≤ x ∧ x < 256) (b1 : 0 ≤ y ∧ y < 256) :
    zlibOf l = (decide (Go.bits .and .u8 x 15 = 8) && decide (x / 16 ≤ 7) && decide (Int.tmod (wrap64 (wrap64 (wrap64 x * 256) + wrap64 y)) 31 = 0) && decide (Go.bits .and .u8 y 32 = 0)) := by
  unfold zlibOf
  have hv : two l 2 = x * 256 + y := by show l.getD 0 0 * 256 + l.getD 1 0 = _; rw [hx, hy]
  rw [hv, decide_eq_true h, Bool.true_and]
  rw [show Go.bits .and .u8 x 15 = x % 16 from mask_any stays_u8 (i := 4) (by decide) x, and32 stays_u8 (by decide) b1.1 (by omega)]
  rw [wrap64_in (x := x) (by omega) (by omega), wrap64_in (x := y) (by omega) (by omega), wrap64_in (x := x * 256) (by omega) (by omega), wrap64_in (x := x * 256 + y) (by omega) (by omega), tmod_pos (by omega)]
  congr 1
  · congr 1
    congr 1
    · exact decide_eq_decide.mpr (by omega)
    · exact decide_eq_decide.mpr (by omega)
  · exact decide_eq_decide.mpr (by omega)
theorem shift_any (s : Int) (hs : 0 ≤ s) : ∃ j, ∀ W : World, (Op.shift .shl .i64 1 .u64 s).run Tryd.prog W = .ok (.int .i64 j) W := by
  refine ⟨IntKind.i64.wrap (1 * 2 ^ min s.toNat IntKind.i64.bits), fun W => ?_⟩
  unfold Op.shift
  rw [if_neg (by omega)]
  rfl
set_option maxHeartbeats 4000000 in
theorem readz_any {w : World} {A : Option Addr} {l : List Int} {c n : Nat} (hn : l.length = n) (hA : RdK .u8 w A l) (bl : Bytes l) : Calls Tryd.prog 18 #[.slice A n c] w (ReadZPost l w) := by
  by_cases h : n < 2
  · have d1 : decide ((n : Int) < 2) = true := decide_eq_true (by omega)
    have HZ := Lib.hid (show zlibOf l = false by unfold zlibOf; rw [decide_eq_false (show ¬ 2 ≤ l.length by omega)]; rfl)
    clear hA bl hn h
    go_enter Tryd.func18, Tryd.ntmps18
    go_wp2_with fail
    go_ret2
    exact ⟨_, _, rfl, by rw [HZ.out]; rfl, 0, rfl⟩
  have d1 : decide ((n : Int) < 2) = false := decide_eq_false (by omega)
  obtain ⟨ad, rfl, hc⟩ := hA (by omega)
  have c0 := hc 0 (by omega)
  have c1 := hc 1 (by omega)
  have hb : ∀ j, j < l.length → 0 ≤ l.getD j 0 ∧ l.getD j 0 < 256 := fun j hj => by
    rw [List.getD_eq_getElem?_getD, List.getElem?_eq_getElem hj, Option.getD_some]; exact bl _ (List.getElem_mem hj)
  have b0 := hb 0 (by omega)
  have b1 := hb 1 (by omega)
  obtain ⟨x, hx⟩ : ∃ x, l.getD 0 0 = x := ⟨_, rfl⟩
  obtain ⟨y, hy⟩ : ∃ y, l.getD 1 0 = y := ⟨_, rfl⟩
  rw [hx] at b0 c0
  rw [hy] at b1 c1
  have HZ := Lib.hid (zlib_bytes (by omega) hx hy b0 b1)
  rw [Addr.add_zero'] at c0
  have e1 : ad.add 1 = ⟨ad.block, ad.off + 1, none⟩ := by unfold Addr.add; simp
  rw [e1] at c1
  have n0 : (0 : Int) < (n : Int) := by omega
  have n1 : (1 : Int) < (n : Int) := by omega
  clear hA bl hn h hc hb b0 b1 hx hy e1
  by_cases k1 : Go.bits .and .u8 x 15 = 8
  · have k1a : (Go.bits .and .u8 x 15 == 8) = true := beq_iff_eq.mpr k1
    have k1b : (Go.bits .and .u8 x 15 != 8) = false := bne_eq_false_iff_eq.mpr k1
    rw [decide_eq_true k1] at HZ
    clear k1
    by_cases k2 : x / 16 ≤ 7
    · have k2a : decide (7 < x / 16) = false := decide_eq_false (by omega)
      rw [decide_eq_true k2] at HZ
      clear k2
      by_cases k3 : Int.tmod (wrap64 (wrap64 (wrap64 x * 256) + wrap64 y)) 31 = 0
      · have k3a : (Int.tmod (wrap64 (wrap64 (wrap64 x * 256) + wrap64 y)) 31 == 0) = true := beq_iff_eq.mpr k3
        have k3b : (Int.tmod (wrap64 (wrap64 (wrap64 x * 256) + wrap64 y)) 31 != 0) = false := bne_eq_false_iff_eq.mpr k3
        rw [decide_eq_true k3] at HZ
        clear k3
        by_cases k4 : Go.bits .and .u8 y 32 = 0
        · have k4a : (Go.bits .and .u8 y 32 == 0) = true := beq_iff_eq.mpr k4
          have k4b : (Go.bits .and .u8 y 32 != 0) = false := bne_eq_false_iff_eq.mpr k4
          rw [decide_eq_true k4] at HZ
          clear k4
          obtain ⟨j, hj⟩ := shift_any ((x / 16 + 8) % 256) (by omega)
          go_enter Tryd.func18, Tryd.ntmps18
          go_wp2_with fail
          repeat (go_quiet (fail); try go_wp2_with fail)
          go_ret2
          exact ⟨_, _, rfl, by rw [HZ.out]; rfl, _, rfl⟩
        · have k4a : (Go.bits .and .u8 y 32 == 0) = false := beq_eq_false_iff_ne.mpr k4
          have k4b : (Go.bits .and .u8 y 32 != 0) = true := bne_iff_ne.mpr k4
          rw [decide_eq_false k4] at HZ
          clear k4
          go_enter Tryd.func18, Tryd.ntmps18
          go_wp2_with fail
          repeat (go_quiet (fail); try go_wp2_with fail)
          go_ret2
          exact ⟨_, _, rfl, by rw [HZ.out]; rfl, _, rfl⟩
      · have k3a : (Int.tmod (wrap64 (wrap64 (wrap64 x * 256) + wrap64 y)) 31 == 0) = false := beq_eq_false_iff_ne.mpr k3
        have k3b : (Int.tmod (wrap64 (wrap64 (wrap64 x * 256) + wrap64 y)) 31 != 0) = true := bne_iff_ne.mpr k3
        rw [decide_eq_false k3] at HZ
        clear k3
        go_enter Tryd.func18, Tryd.ntmps18
        go_wp2_with fail
        repeat (go_quiet (fail); try go_wp2_with fail)
        go_ret2
        exact ⟨_, _, rfl, by rw [HZ.out]; rfl, _, rfl⟩
    · have k2a : decide (7 < x / 16) = true := decide_eq_true (by omega)
      rw [decide_eq_false k2] at HZ
      clear k2
      go_enter Tryd.func18, Tryd.ntmps18
      go_wp2_with fail
      repeat (go_quiet (fail); try go_wp2_with fail)
      go_ret2
      exact ⟨_, _, rfl, by rw [HZ.out]; rfl, _, rfl⟩
  · have k1a : (Go.bits .and .u8 x 15 == 8) = false := beq_eq_false_iff_ne.mpr k1
    have k1b : (Go.bits .and .u8 x 15 != 8) = true := bne_iff_ne.mpr k1
    rw [decide_eq_false k1] at HZ
    clear k1
    go_enter Tryd.func18, Tryd.ntmps18
    go_wp2_with fail
    repeat (go_quiet (fail); try go_wp2_with fail)
    go_ret2
    exact ⟨_, _, rfl, by rw [HZ.out]; rfl, _, rfl⟩
end Go.Proofs.YtgleehnmnmmdcaaDoor.Walks
