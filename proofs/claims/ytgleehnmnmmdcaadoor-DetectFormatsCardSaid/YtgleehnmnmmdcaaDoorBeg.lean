/- Contracts of begins, zip, gzip, cpio. -/
import Derived.Test.YtgleehnmnmmdcaaDoorPre
namespace Go.Proofs.YtgleehnmnmmdcaaDoor.Walks
open Go Go.RowKit Go.Proofs.YtgleehnmnmmdcaaDoor.Aid Go.Proofs.YtgleehnmnmmdcaaDoor.Own

theorem rd_only' {w w' : World} {A : Option Addr} {l : List Int} (h : RdK .u8 w A l) (ho : Only (fun _ => False) w w') : RdK .u8 w' A l := rd_only h ho
/-- '[]byte(s)' of a text told by a list: a new block that reads so. -/
theorem conv_rd (w : World) {m : List Int} (hm : Bytes m) : ∃ c w', (convert 9 22 (.string (strOfNums m))).run Tryd.prog w = .ok (.slice (some ⟨w.heap.size, 0, none⟩) m.length c) w' ∧ RdK .u8 w' (some ⟨w.heap.size, 0, none⟩) m ∧ Only (fun _ => False) w w' := by
  have h := run_bytes_of_string (P := Tryd.prog) w 9 22 5 (strOfNums m) Tryd.underlying9 Tryd.underlying22 Tryd.underlying5
  rw [strOfNums_size] at h
  refine ⟨_, _, h, fun h0 => ⟨_, rfl, fun j hj => ?_⟩, ((Only.refl _ w).drew).alloc _⟩
  have e : (⟨w.heap.size, 0, none⟩ : Addr).add j = ⟨w.heap.size, 0 + j, none⟩ := by unfold Addr.add; split <;> simp_all
  rw [e, Nat.zero_add, World.cell?]
  have hn := alloc_new w.drew (.cells (bytesRow (strOfNums m) (grownCap w m.length 0 5)) 5 ((bytesRow (strOfNums m) (grownCap w m.length 0 5)).size, (bytesRow (strOfNums m) (grownCap w m.length 0 5)).size + 1))
  have hd : w.drew.heap.size = w.heap.size := rfl
  rw [hd] at hn
  simp only [hn]
  have hs : j < (strOfNums m).data.size := by show j < (strOfNums m).size; rw [strOfNums_size]; exact hj
  rw [bytesRow_at _ _ _ hs]
  have hx := hm _ (List.getElem_mem hj)
  have e2 : (strOfNums m).data[j] = UInt8.ofNat (m[j]).toNat := by
    have : (strOfNums m).data.toList[j]'hs = _ := List.getElem_map (f := fun n : Int => UInt8.ofNat n.toNat) (l := m) (h := by simpa using hj)
    exact this
  rw [e2, List.getD_eq_getElem?_getD, List.getElem?_eq_getElem hj, Option.getD_some, UInt8.toNat_ofNat']
  have e3 : ((m[j].toNat % 2 ^ 8 : Nat) : Int) = m[j] := by omega
  rw [e3]
  rfl
theorem conv_at (w : World) (g : Nat) (hg : w.heap.size = g) {m : List Int} (hm : Bytes m) : ∃ c w', (convert 9 22 (.string (strOfNums m))).run Tryd.prog w = .ok (.slice (some ⟨g, 0, none⟩) m.length c) w' ∧ RdK .u8 w' (some ⟨g, 0, none⟩) m ∧ Only (fun _ => False) w w' := by
  subst hg; exact conv_rd w hm
set_option maxHeartbeats 4000000 in
theorem begins_any {w : World} {A : Option Addr} {l m : List Int} {c : Nat} (S : ByteArray) (hS : S = strOfNums m) (hc : l.length ≤ c) (hA : RdK .u8 w A l) (bl : Bytes l) (bm : Bytes m) :
    Calls Tryd.prog 19 #[.agg #[.slice A l.length c], .string S] w fun x w' => x = .returned (.bool (pre m l)) ∧ Only (fun _ => False) w w' := by
  obtain ⟨d, w2, hcv, hR2, ho2⟩ := conv_at (w.alloc (.cells #[.slice A l.length c] 39)) (w.heap.size + 1) (alloc_size _ _) bm
  rw [← hS] at hcv
  have HA := Lib.hid (rd_only (rd_only hA ((Only.refl (fun _ => False) w).alloc (.cells #[.slice A l.length c] 39))) ho2)
  have HR := Lib.hid hR2
  have BL := Lib.hid bl
  have BM := Lib.hid bm
  have HO := Lib.hid (((Only.refl (fun _ => False) w).alloc (.cells #[.slice A l.length c] 39)).trans' ho2)
  clear hA hR2 ho2 bl bm hS
  go_enter Tryd.func19, Tryd.ntmps19
  go_wp2_with fail
  go_at_call 22
  refine (prefix_any c d hc HA.out HR.out BL.out BM.out).mono ?_
  rintro x w' ⟨rfl, rfl⟩
  go_wp2_with fail
  go_ret
  exact ⟨rfl, HO.out⟩
def ProbePost (v : Bool) (w : World) (x : Ending) (w' : World) : Prop := x = .returned (.bool v) ∧ Only (fun _ => False) w w'
theorem gzip_any {w : World} {A : Option Addr} {l : List Int} {c : Nat} (hc : l.length ≤ c) (hA : RdK .u8 w A l) (bl : Bytes l) : Calls Tryd.prog 13 #[.agg #[.slice A l.length c]] w (ProbePost (pre [31, 139] l) w) := by
  have HA := Lib.hid hA
  have BL := Lib.hid bl
  clear hA bl
  have HO := Lib.hid ((Only.refl (fun _ => False) w).alloc (.cells #[.slice A l.length c] 39))
  go_enter Tryd.func13, Tryd.ntmps13
  go_wp2_with fail
  go_at_call 19
  refine (begins_any (m := [31, 139]) _ rfl hc (rd_only HA.out HO.out) BL.out (by unfold Bytes; decide)).mono ?_
  rintro x w' ⟨rfl, ho⟩
  go_wp2_with fail
  go_ret
  exact ⟨rfl, HO.out.trans' ho⟩
theorem cpio_any {w : World} {A : Option Addr} {l : List Int} {c : Nat} (hc : l.length ≤ c) (hA : RdK .u8 w A l) (bl : Bytes l) : Calls Tryd.prog 14 #[.agg #[.slice A l.length c]] w (ProbePost (pre [48, 55, 48, 55, 48, 49] l) w) := by
  have HA := Lib.hid hA
  have BL := Lib.hid bl
  clear hA bl
  have HO := Lib.hid ((Only.refl (fun _ => False) w).alloc (.cells #[.slice A l.length c] 39))
  go_enter Tryd.func14, Tryd.ntmps14
  go_wp2_with fail
  go_at_call 19
  refine (begins_any (m := [48, 55, 48, 55, 48, 49]) _ rfl hc (rd_only HA.out HO.out) BL.out (by unfold Bytes; decide)).mono ?_
  rintro x w' ⟨rfl, ho⟩
  go_wp2_with fail
  go_ret
  exact ⟨rfl, HO.out.trans' ho⟩
theorem zip_any {w : World} {A : Option Addr} {l : List Int} {c : Nat} (hc : l.length ≤ c) (hA : RdK .u8 w A l) (bl : Bytes l) : Calls Tryd.prog 12 #[.agg #[.slice A l.length c]] w (ProbePost (pre [80, 75, 3, 4] l || pre [80, 75, 5, 6] l) w) := by
  have HA := Lib.hid hA
  have BL := Lib.hid bl
  clear hA bl
  have HO := Lib.hid ((Only.refl (fun _ => False) w).alloc (.cells #[.slice A l.length c] 39))
  have hbox := alloc_new w (.cells #[.slice A l.length c] 39)
  go_enter Tryd.func12, Tryd.ntmps12
  go_wp2_with fail
  go_at_call 19
  refine (begins_any (m := [80, 75, 3, 4]) _ rfl hc (rd_only HA.out HO.out) BL.out (by unfold Bytes; decide)).mono ?_
  rintro x w1 ⟨rfl, ho⟩
  have q := Joins.cell_of_block (ho.keeps hbox id) 0
  simp only [List.getElem?_toArray, List.getElem?_cons_zero] at q
  have HO1 := Lib.hid (HO.out.trans' ho)
  cases hp : pre [80, 75, 3, 4] l with
  | true =>
    go_wp2_with fail
    go_ret
    exact ⟨by rw [hp, Bool.true_or]; rfl, HO1.out⟩
  | false =>
    go_wp2_with fail
    go_at_call 19
    refine (begins_any (m := [80, 75, 5, 6]) _ rfl hc (rd_only HA.out HO1.out) BL.out (by unfold Bytes; decide)).mono ?_
    rintro x w2 ⟨rfl, ho2⟩
    go_wp2_with fail
    go_ret
    exact ⟨by rw [hp, Bool.false_or]; rfl, HO1.out.trans' ho2⟩
end Go.Proofs.YtgleehnmnmmdcaaDoor.Walks
