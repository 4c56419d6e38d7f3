/- Contracts of bytes.Equal, bytes.HasPrefix. -/
import Derived.Test.YtgleehnmnmmdcaaDoorNam
import Derived.Test.YtgleehnmnmmdcaaDoorOwnB
namespace Go.Proofs.YtgleehnmnmmdcaaDoor.Walks
open Go Go.RowKit Go.Proofs.YtgleehnmnmmdcaaDoor.Aid Go.Proofs.YtgleehnmnmmdcaaDoor.Own

def Bytes (l : List Int) : Prop := ∀ x ∈ l, 0 ≤ x ∧ x < 256
theorem str_inj {a b : List Int} (ha : Bytes a) (hb : Bytes b) : strOfNums a = strOfNums b ↔ a = b := by
  constructor
  · intro h
    have h1 : (strOfNums a).data.toList = (strOfNums b).data.toList := by rw [h]
    rw [strOfNums_data, strOfNums_data] at h1
    have hl : a.length = b.length := by simpa using congrArg List.length h1
    apply List.ext_getElem hl
    intro i h2 h3
    have h4 : (a.map fun n => UInt8.ofNat n.toNat)[i]'(by simpa using h2) = (b.map fun n => UInt8.ofNat n.toNat)[i]'(by simpa using h3) := by simp only [h1]
    rw [List.getElem_map, List.getElem_map] at h4
    have h5 := congrArg UInt8.toNat h4
    rw [UInt8.toNat_ofNat', UInt8.toNat_ofNat'] at h5
    have b1 := ha _ (List.getElem_mem h2)
    have b2 := hb _ (List.getElem_mem h3)
    omega
  · intro h; rw [h]
theorem equal_any {w : World} {A B : Option Addr} {l m : List Int} {n k : Nat} (c d : Nat) (hl : l.length = n) (hm : m.length = k) (hA : RdK .u8 w A l) (hB : RdK .u8 w B m) (bl : Bytes l) (bm : Bytes m) :
    Calls Tryd.prog 32 #[.slice A n c, .slice B k d] w fun x w' => x = .returned (.bool (decide (l = m))) ∧ w' = w := by
  subst hl hm
  have s1 := str_rd c hA
  have s2 := str_rd d hB
  have HE := Lib.hid (show ((strOfNums l).toList == (strOfNums m).toList) = decide (l = m) by rw [str_eq]; exact decide_eq_decide.mpr (str_inj bl bm))
  clear hA hB bl bm
  generalize strOfNums l = S at *
  generalize strOfNums m = T at *
  go_enter Tryd.func32, Tryd.ntmps32
  go_wp2_with fail
  go_ret
  exact ⟨by rw [← HE.out]; rfl, rfl⟩
/-- m stands at the beginning of l. -/
def pre (m l : List Int) : Bool := decide (m.length ≤ l.length ∧ l.take m.length = m)
theorem RdK.take {w : World} {A : Option Addr} {l : List Int} (h : RdK .u8 w A l) (n : Nat) : RdK .u8 w A (l.take n) := fun h0 => by
  rw [List.length_take] at h0
  obtain ⟨ad, e, hc⟩ := h (by omega)
  refine ⟨ad, e, fun j hj => ?_⟩
  rw [List.length_take] at hj
  rw [hc j (by omega), List.getD_eq_getElem?_getD, List.getD_eq_getElem?_getD, List.getElem?_take, if_pos (by omega)]
theorem Bytes.take {l : List Int} (h : Bytes l) (n : Nat) : Bytes (l.take n) := fun x hx => h x (List.mem_of_mem_take hx)
theorem prefix_any {w : World} {A B : Option Addr} {l m : List Int} (c d : Nat) (hc : l.length ≤ c) (hA : RdK .u8 w A l) (hB : RdK .u8 w B m) (bl : Bytes l) (bm : Bytes m) :
    Calls Tryd.prog 22 #[.slice A l.length c, .slice B m.length d] w fun x w' => x = .returned (.bool (pre m l)) ∧ w' = w := by
  have HA := Lib.hid hA
  have HB := Lib.hid hB
  have BL := Lib.hid bl
  have BM := Lib.hid bm
  clear hA hB bl bm
  by_cases h : m.length ≤ l.length
  · have h1 : decide (m.length ≤ l.length) = true := decide_eq_true h
    have h2 : (m.length : Int) ≤ (c : Int) := by omega
    have HP := Lib.hid (show pre m l = decide (l.take m.length = m) by unfold pre; exact decide_eq_decide.mpr ⟨fun h => h.2, fun h' => ⟨h, h'⟩⟩)
    have HL := Lib.hid (show (l.take m.length).length = m.length by rw [List.length_take]; omega)
    go_enter Tryd.func22, Tryd.ntmps22
    go_wp2_with fail
    go_at_call 32
    refine (equal_any c d HL.out rfl (RdK.take HA.out m.length) HB.out (BL.out.take _) BM.out).mono ?_
    rintro x w' ⟨rfl, rfl⟩
    go_wp2_with fail
    go_ret
    exact ⟨by rw [HP.out]; rfl, rfl⟩
  · have h1 : decide (m.length ≤ l.length) = false := decide_eq_false h
    have HP := Lib.hid (show pre m l = false by unfold pre; exact decide_eq_false (fun h' => h h'.1))
    go_enter Tryd.func22, Tryd.ntmps22
    go_wp2_with fail
    go_ret
    exact ⟨by rw [HP.out]; rfl, rfl⟩
end Go.Proofs.YtgleehnmnmmdcaaDoor.Walks
