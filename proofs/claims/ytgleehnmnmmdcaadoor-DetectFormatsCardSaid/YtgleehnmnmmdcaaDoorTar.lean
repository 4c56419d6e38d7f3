/- Contract of tar. -/
import Derived.Test.YtgleehnmnmmdcaaDoorTrm
namespace Go.Proofs.YtgleehnmnmmdcaaDoor.Walks
open Go Go.RowKit Go.Proofs.YtgleehnmnmmdcaaDoor.Aid Go.Proofs.YtgleehnmnmmdcaaDoor.Own

def ustar (l : List Int) : Bool := decide (263 ≤ l.length) && decide ((l.drop 257).take 6 = [117, 115, 116, 97, 114, 0])
def tarOf (l : List Int) : Bool := ustar l || (decide (512 ≤ l.length) && noughts (l.take 512))
theorem RdK.drop {w : World} {ad : Addr} {l : List Int} (h : RdK .u8 w (some ad) l) (n : Nat) (hn : 0 < n) : RdK .u8 w (some ⟨ad.block, ad.off + n, none⟩) (l.drop n) := fun h0 => by
  rw [List.length_drop] at h0
  obtain ⟨ad', e, hc⟩ := h (by omega)
  injection e with e
  subst e
  refine ⟨_, rfl, fun j hj => ?_⟩
  rw [List.length_drop] at hj
  have := hc (n + j) (by omega)
  rw [List.getD_eq_getElem?_getD, List.getElem?_drop, ← List.getD_eq_getElem?_getD, ← this]
  congr 1
  unfold Addr.add
  by_cases hj0 : j = 0
  · simp [hj0]; omega
  · simp [hj0]; omega
theorem str_at {w : World} {A : Option Addr} {l : List Int} (n c : Nat) (h : RdK .u8 w A l) (hn : l.length = n) : (convert 22 9 (.slice A n c)).run Tryd.prog w = .ok (.string (strOfNums l)) w := by
  subst hn; exact str_rd c h
theorem trim_n {w : World} {A : Option Addr} {l : List Int} {c n : Nat} (S : ByteArray) (hS : S = ⟨#[0]⟩) (hn : l.length = n) (h0 : 0 < n) (hc : n ≤ c) (hl : n ≤ 1000000) (hA : RdK .u8 w A l) : Calls Tryd.prog 20 #[.slice A n c, .string S] w (TrimP l w) := by
  subst hn; exact trim_any S hS h0 hc hl hA
set_option maxRecDepth 100000 in
set_option maxHeartbeats 4000000 in
theorem tar_any {w : World} {A : Option Addr} {l : List Int} {c : Nat} (hc : l.length ≤ c) (hl : l.length ≤ 1000000) (hA : RdK .u8 w A l) (bl : Bytes l) : Calls Tryd.prog 15 #[.agg #[.slice A l.length c]] w (ProbePost (tarOf l) w) := by
  have HO := Lib.hid ((Only.refl (fun _ => False) w).alloc (.cells #[.slice A l.length c] 39))
  have HA := Lib.hid (rd_only hA HO.out)
  have BL := Lib.hid bl
  have HC := Lib.hid hc
  have HL := Lib.hid hl
  clear hA bl
  by_cases h1 : 263 ≤ l.length
  · have h1' : decide ((l.length : Int) ≥ 263) = true := decide_eq_true (by omega)
    obtain ⟨ad, rfl, _⟩ := HA.out (by omega)
    have s1 := str_at 6 (c - 257) (RdK.take (RdK.drop HA.out 257 (by decide)) 6) (by simp; omega)
    have q1 : (263 : Int) ≤ (c : Int) := by omega
    have q2 : ¬ c = 257 := by omega
    have HT := Lib.hid (show ((strOfNums ((l.drop 257).take 6)).toList == ([117, 115, 116, 97, 114, 0] : List UInt8)) = decide ((l.drop 257).take 6 = [117, 115, 116, 97, 114, 0]) by
      rw [show ([117, 115, 116, 97, 114, 0] : List UInt8) = (strOfNums [117, 115, 116, 97, 114, 0]).toList by rw [Lib.toList_data]; rfl, str_eq]
      exact decide_eq_decide.mpr (str_inj (fun x hx => BL.out x (List.mem_of_mem_drop (List.mem_of_mem_take hx))) (by unfold Bytes; decide)))
    generalize strOfNums ((l.drop 257).take 6) = T at *
    clear hc hl
    go_enter Tryd.func15, Tryd.ntmps15
    cases hu : decide ((l.drop 257).take 6 = [117, 115, 116, 97, 114, 0]) with
    | true =>
      have e1 := HT.out
      rw [hu] at e1
      have HU := Lib.hid (show tarOf l = true by unfold tarOf ustar; rw [hu, decide_eq_true h1]; rfl)
      clear hu
      go_wp2_with fail
      go_ret
      exact ⟨by rw [HU.out]; rfl, HO.out⟩
    | false =>
      have e1 := HT.out
      rw [hu] at e1
      by_cases h2 : 512 ≤ l.length
      · have h2' : decide ((l.length : Int) ≥ 512) = true := decide_eq_true (by omega)
        have q3 : (512 : Int) ≤ (c : Int) := by have := HC.out; omega
        have HU := Lib.hid (show tarOf l = noughts (l.take 512) by unfold tarOf ustar; rw [hu, decide_eq_true h2, Bool.and_false, Bool.false_or, Bool.true_and])
        clear hu
        go_wp2_with fail
        go_at_call 20
        refine (trim_n (l := l.take 512) _ rfl (by rw [List.length_take]; omega) (by decide) (by have := HC.out; omega) (by decide) (RdK.take HA.out 512)).mono ?_
        rintro x w2 ⟨B, k, d, rfl, hk, m, rfl⟩
        go_wp2_with fail
        go_ret
        exact ⟨by rw [HU.out, ← hk]; rfl, HO.out.drewN m⟩
      · have h2' : decide ((l.length : Int) ≥ 512) = false := decide_eq_false (by omega)
        have HU := Lib.hid (show tarOf l = false by unfold tarOf ustar; rw [hu, decide_eq_false h2, Bool.and_false, Bool.false_or, Bool.false_and])
        clear hu
        go_wp2_with fail
        go_ret
        exact ⟨by rw [HU.out]; rfl, HO.out⟩
  · have h1' : decide ((l.length : Int) ≥ 263) = false := decide_eq_false (by omega)
    have h2' : decide ((l.length : Int) ≥ 512) = false := decide_eq_false (by omega)
    have HU := Lib.hid (show tarOf l = false by unfold tarOf ustar; rw [decide_eq_false h1, decide_eq_false (show ¬ 512 ≤ l.length by omega)]; rfl)
    clear h1
    go_enter Tryd.func15, Tryd.ntmps15
    go_wp2_with fail
    go_ret
    exact ⟨by rw [HU.out]; rfl, HO.out⟩
end Go.Proofs.YtgleehnmnmmdcaaDoor.Walks
