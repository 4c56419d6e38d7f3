/- Entries that are alike are the same: plain. -/
import Derived.Test.YtdkfemmjoabbcaaDoorPTx
namespace Go.Proofs.YtdkfemmjoabbcaaDoor.Walks
open Go Go.RowKit Go.Proofs.YtdkfemmjoabbcaaDoor.Aid Go.Proofs.YtdkfemmjoabbcaaDoor.Pth Go.Proofs.YtdkfemmjoabbcaaDoor.Own Go.Proofs.YtdkfemmjoabbcaaDoorW.PrintWords Ieee

theorem tSame_self (a : Nat) : tSame a a = true := by
  unfold tSame
  cases h : isN a
  · have : (FloatKind.f64.format.order a a == some .eq) = true := by
      unfold isN at h; rw [bne, Bool.not_eq_false'] at h; exact h
    rw [this]; rfl
  · rw [Bool.true_and, Bool.or_true]
theorem tSame_of {a b : Nat} (h : TEq b a) : tSame a b = true := by
  rcases h with h | ⟨h1, h2⟩
  · rw [h]; exact tSame_self a
  · unfold tSame; rw [h1, h2]; simp
theorem sameL_of {E F : Ent} (h : EqT F E) : sameL E F = true := by
  unfold sameL
  rw [h.path, h.kind, h.mode, h.uid, h.gid, h.target, h.data, tSame_of h.time]
  simp
theorem EqT.rfl' (E : Ent) : EqT E E := ⟨rfl, rfl, rfl, rfl, rfl, TEq.rfl' _, rfl, rfl⟩
theorem sameLs_of {l m : List Ent} (h : EqLs m l) : sameLs l m = true := sameLs_all h.1.symm (fun i hi => sameL_of (h.2 i (by rw [h.1]; exact hi)))
theorem eqLs_refl (l : List Ent) : EqLs l l := ⟨rfl, fun _ _ => EqT.rfl' _⟩
theorem EntAt.like {w : World} {E F : Ent} {A : Option Addr} {c : Nat} (h : EntAt w E A c) (e : F.data = E.data) : EntAt w F A c := ⟨by rw [e]; exact h.1, by rw [e]; exact h.2⟩
theorem last_len (p : Str) : (lastL p).length ≤ 500000 := by
  by_cases hr : rightL p = true
  · have hc := (last_right hr).1
    have : cleanL (lastL p) = some (lastL p) := by unfold rightL at hc; exact of_decide_eq_true hc
    have := (clean_yes this).2.2.1
    omega
  · unfold lastL splitL
    rw [if_neg hr]
    simp
theorem oneT_ok {E : Ent} {f : Int} (hf : Fmt f) (h : EOk E) : EOk (oneT E f) := by
  refine ⟨?_, by rw [(oneT_kind E f).2]; exact h.target, by rw [oneT_data]; exact h.data⟩
  rcases hf with rfl | rfl | rfl | rfl | rfl
  · exact h.path
  · exact h.path
  · exact h.path
  · rw [oneT4]
    dsimp only
    split
    · exact last_len _
    · exact h.path
  · show 4 ≤ 500000
    decide
theorem map_ok {l : List Ent} {f : Int} (hf : Fmt f) (h : EsOk l) : EsOk (l.map (oneT · f)) := fun E hE => by
  obtain ⟨F, hF, rfl⟩ := List.mem_map.1 hE
  obtain ⟨h1, h2⟩ := h F hF
  exact ⟨oneT_ok hf h1, by rw [(oneT_kind F f).1]; exact h2⟩
theorem map_twice (l : List Ent) {f : Int} (hf : Fmt f) : (l.map (oneT · f)).map (oneT · f) = l.map (oneT · f) := by
  rw [List.map_map]
  congr 1
  funext E
  exact oneT_twice E hf
/-- A time less itself is nought. -/
theorem sub_self {t : Nat} (h : Fnt t) : floatBits .sub .f64 t t = some 0 := by
  have := sub_fnt h h
  rw [Int.sub_self, if_pos rfl] at this
  show Ieee.double.sub t t = some 0
  rw [this]
  cases sg t <;> exact congrArg some wd_zero
theorem inv_zero : floatBits .quo .f64 4607182418800017408 0 = some 9218868437227405312 := by kernel_rfl
theorem inf_pos : (FloatKind.f64.format.order 9218868437227405312 0 == some .lt) = false := by kernel_rfl
theorem zero_zero : (FloatKind.f64.format.order 0 0 != some .eq) = false := by kernel_rfl
end Go.Proofs.YtdkfemmjoabbcaaDoor.Walks
