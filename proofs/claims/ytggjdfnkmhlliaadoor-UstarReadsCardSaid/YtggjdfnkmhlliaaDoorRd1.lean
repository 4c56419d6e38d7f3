/- Contract of Read$1. -/
import Derived.Test.YtggjdfnkmhlliaaDoorRPut
namespace Go.Proofs.YtggjdfnkmhlliaaDoor.Walks
open Go Go.RowKit Go.Proofs.YtggjdfnkmhlliaaDoor.Aid Go.Proofs.YtggjdfnkmhlliaaDoor.Own Go.Proofs.YtggjdfnkmhlliaaDoorW.PrintWords

def okOf (ok : Bool) (s : Str) : Bool := ok && decide ((octL s).2 = 0)
def Rd1Post (g2 : Nat) (s : Str) (ok : Bool) (w : World) (x : Ending) (w' : World) : Prop := x = .returned (.int .i64 (octL s).1) ∧ w'.heap[g2]? = some (.cells #[.bool (okOf ok s)] 4 (0, 0)) ∧ Only (fun k => k = g2) w w'
theorem one_put {w : World} {g : Nat} {v : Value} {t : TypeId} (h : w.heap[g]? = some (.cells #[v] t (0, 0))) (u : Value) : (w.setCell ⟨g, 0, none⟩ u).heap[g]? = some (.cells #[u] t (0, 0)) ∧ Only (fun k => k = g) w (w.setCell ⟨g, 0, none⟩ u) :=
  ⟨one_setCell h, (Only.refl (fun k => k = g) w).setCell (S := fun k => k = g) (p := ⟨g, 0, none⟩) (Or.inl rfl) u⟩
set_option maxHeartbeats 4000000 in
theorem rd1_any {w : World} {ad : Addr} {l : Str} {g1 g2 : Nat} {ok : Bool} (a n : Nat) (hl : l.length = 512) {c : Nat} (hc : 512 ≤ c) (h : a + n ≤ 512) (h3 : 0 < n) (hR : RdU w (some ad) l) (hb1 : w.heap[g1]? = some (.cells #[.slice (some ad) 512 c] 22 (0, 0))) (hb2 : w.heap[g2]? = some (.cells #[.bool ok] 4 (0, 0))) :
    Calls Tryd.prog 26 #[.int .i64 (a : Int), .int .i64 (n : Int), .pointer (some ⟨g1, 0, none⟩), .pointer (some ⟨g2, 0, none⟩)] w (Rd1Post g2 (sub l a n) ok w) := by
  have hS := str_u n (hR.sub a n) (sub_len (by omega))
  obtain ⟨s, hs⟩ : ∃ s, sub l a n = s := ⟨_, rfl⟩
  have hsl : s.length ≤ 1000000 := by rw [← hs, sub_len (by omega)]; omega
  rw [hs] at hS ⊢
  have HO := Lib.hid (octal_any (B s) w (by rw [B_size]; exact hsl))
  rw [B_data] at HO
  obtain ⟨v, hv⟩ : ∃ v, (octL s).1 = v := ⟨_, rfl⟩
  obtain ⟨e, he⟩ : ∃ e, (octL s).2 = e := ⟨_, rfl⟩
  rw [hv, he] at HO
  have HK := Lib.hid (show okOf ok s = (ok && decide (e = 0)) by unfold okOf; rw [he])
  have HV := Lib.hid hv
  have H1 := Lib.hid h
  have HC := Lib.hid hc
  have H3 := Lib.hid h3
  have c1 := Joins.cell_of_block hb1 0
  have c2 := Joins.cell_of_block hb2 0
  have f2 := Joins.unfrozen_of_block hb2 0
  have HP := Lib.hid (fun u => one_put hb2 u)
  clear h hR hl hs hsl he hv hc h3 hb1 hb2
  go_enter Tryd.func26, Tryd.ntmps26
  cases ok with
  | true =>
    by_cases c0 : e = 0
    · have d1 : (e == 0) = true := beq_iff_eq.mpr c0
      have HK2 := Lib.hid (HK.out.trans (show _ = true by rw [decide_eq_true c0]; rfl))
      clear c0
      go_wp2_with (first
        | (go_at_call 23; refine (field_any a n HC.out H1.out (by decide) H3.out).mono ?_; rintro x w1 ⟨rfl, rfl⟩)
        | (go_at_call 24; refine HO.out.mono ?_; rintro x w1 ⟨rfl, rfl⟩))
      go_ret
      exact ⟨by rw [HV.out]; rfl, by rw [HK2.out]; exact (HP.out _).1, (HP.out _).2⟩
    · have d1 : (e == 0) = false := beq_eq_false_iff_ne.mpr c0
      have HK2 := Lib.hid (HK.out.trans (show _ = false by rw [decide_eq_false c0]; rfl))
      clear c0
      go_wp2_with (first
        | (go_at_call 23; refine (field_any a n HC.out H1.out (by decide) H3.out).mono ?_; rintro x w1 ⟨rfl, rfl⟩)
        | (go_at_call 24; refine HO.out.mono ?_; rintro x w1 ⟨rfl, rfl⟩))
      go_ret
      exact ⟨by rw [HV.out]; rfl, by rw [HK2.out]; exact (HP.out _).1, (HP.out _).2⟩
  | false =>
    have HK2 := Lib.hid (HK.out.trans (show _ = false from rfl))
    go_wp2_with (first
      | (go_at_call 23; refine (field_any a n HC.out H1.out (by decide) H3.out).mono ?_; rintro x w1 ⟨rfl, rfl⟩)
      | (go_at_call 24; refine HO.out.mono ?_; rintro x w1 ⟨rfl, rfl⟩))
    go_ret
    exact ⟨by rw [HV.out]; rfl, by rw [HK2.out]; exact (HP.out _).1, (HP.out _).2⟩
end Go.Proofs.YtggjdfnkmhlliaaDoor.Walks
