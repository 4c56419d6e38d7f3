/- The statements' common first check answers true, whatever memory holds; nothing that lay in it is turned. -/
import Derived.Test.YtilkgjjfamdhdaaMeth
import Derived.Test.YtilkgjjfamdhdaaFlo
namespace Go.Proofs.Ytilkgjjfamdhdaa.Walks
open Go Go.RowKit Go.Proofs.Ytilkgjjfamdhdaa.Aid

theorem begin_at (g : Nat) (e t n p : Int) (r : Nat) (en to ow k c : Int) (o : Obj) (w : World) (hb : Hid (w.heap[g]? = some (bud e t n p r en to ow))) (h0 : 0 ≤ en) (h1 : en ≤ 1048576)
    (hc : beginC p n en k = c) (ho : (if c = 0 then bud e t n p r (en + 1) to 0 else bud e t n p r en to ow) = o) :
    Calls Try.prog 15 #[.pointer (some ⟨g, 0, none⟩), .int .i64 k] w fun x w' => x = .returned (.int .i64 c) ∧ Hid (w'.heap[g]? = some o) ∧ Only (· = g) w w' := by
  refine (begin_any g e t n p r en to ow k w hb.out h0 h1).mono fun x w' h => ?_
  obtain ⟨h1, h2, h3⟩ := h
  rw [hc] at h1 h2
  rw [ho] at h2
  exact ⟨h1, Lib.hid h2, h3⟩
theorem data_at (g : Nat) (e t n p : Int) (r : Nat) (en to ow k c : Int) (o : Obj) (w : World) (hb : Hid (w.heap[g]? = some (bud e t n p r en to ow))) (he : 0 ≤ e ∧ e ≤ 1073741824) (ht : 0 ≤ t ∧ t ≤ 1073741824) (hto : 0 ≤ to ∧ to ≤ t) (how : 0 ≤ ow ∧ ow ≤ e)
    (hc : dataC e t en to ow k = c) (ho : (if c = 0 then bud e t n p r en (to + k) (ow + k) else bud e t n p r en to ow) = o) :
    Calls Try.prog 18 #[.pointer (some ⟨g, 0, none⟩), .int .i64 k] w fun x w' => x = .returned (.int .i64 c) ∧ Hid (w'.heap[g]? = some o) ∧ Only (· = g) w w' := by
  refine (data_any g e t n p r en to ow k w hb.out he ht hto how).mono fun x w' h => ?_
  obtain ⟨h1, h2, h3⟩ := h
  rw [hc] at h1 h2
  rw [ho] at h2
  exact ⟨h1, Lib.hid h2, h3⟩
theorem room_at (g : Nat) (e t n p : Int) (r : Nat) (en to ow c : Int) (w : World) (hb : Hid (w.heap[g]? = some (bud e t n p r en to ow))) (he : 0 ≤ e ∧ e ≤ 1073741824) (ht : 0 ≤ t ∧ t ≤ 1073741824) (hto : 0 ≤ to ∧ to ≤ t) (how : 0 ≤ ow ∧ ow ≤ e)
    (hc : roomC e t en to ow = c) : Calls Try.prog 16 #[.pointer (some ⟨g, 0, none⟩)] w fun x w' => x = .returned (.int .i64 c) ∧ ∃ m, w' = w.drewN m := by
  rw [← hc]; exact room_any g e t n p r en to ow w hb.out he ht hto how
theorem new_at (e t n p : Int) (r : Nat) (w : World) (hm : mayB e t n p = true) : Calls Try.prog 12 #[lim e t n p r] w fun x w' => ∃ g, x = .returned (.tuple #[.pointer (some ⟨g, 0, none⟩), .int .i64 0]) ∧ w.heap.size ≤ g ∧ Hid (w'.heap[g]? = some (bud e t n p r 0 0 0)) ∧ Below w.heap.size w w' := by
  refine (new_any e t n p r w).mono fun x w' h => ?_
  unfold NewPost at h
  rw [if_pos hm] at h
  obtain ⟨g, h1, h2, h3, h4⟩ := h
  exact ⟨g, h1, h2, Lib.hid h3, h4⟩
theorem over_at (n m : Int) (r : Nat) (b : Bool) (w : World) (hb : overC n m r = b) : Calls Try.prog 9 #[.int .i64 n, .int .i64 m, .float .f64 r] w (OverPost b w) := by rw [← hb]; exact over_any n m r w
theorem o1 : overC 10 1 4621819117588971520 = false := by kernel_rfl
theorem o2 : overC 1 5 0 = true := by kernel_rfl
theorem beginC_no {p n en k : Int} (h : p < k ∨ en ≥ n) : beginC p n en k = 3 := by unfold beginC; rw [if_pos h]
theorem beginC_ok {p n en k : Int} (h : ¬ (p < k ∨ en ≥ n)) : beginC p n en k = 0 := by unfold beginC; rw [if_neg h]
theorem dataC_no {e t en su ow k : Int} (h0 : 0 ≤ k) (h : k > roomC e t en su ow) : dataC e t en su ow k = 3 := by unfold dataC; rw [if_neg (by omega), if_pos h]
theorem dataC_ok {e t en su ow k : Int} (h0 : 0 ≤ k) (h : ¬ k > roomC e t en su ow) : dataC e t en su ow k = 0 := by unfold dataC; rw [if_neg (by omega), if_neg h]
theorem roomC_zero {e t en su ow : Int} (h : en = 0) : roomC e t en su ow = 0 := by unfold roomC; rw [if_pos h]
theorem roomC_pos {e t en su ow : Int} (h : en ≠ 0) : roomC e t en su ow = if e - ow < t - su then e - ow else t - su := by unfold roomC; rw [if_neg h]
theorem roomC_mono {e t e' t' en su ow : Int} (h1 : e ≤ e') (h2 : t ≤ t') : roomC e t en su ow ≤ roomC e' t' en su ow := by
  unfold roomC; split; omega; split <;> split <;> omega
theorem roomC_fit {e t en su ow q : Int} (h0 : 0 ≤ q) (hs : su ≤ t) (ho : ow ≤ e) (h : ¬ q > roomC e t en su ow) : ow + q ≤ e ∧ su + q ≤ t := by
  unfold roomC at h; split at h; omega; split at h <;> omega
def ToldPost (w : World) (x : Ending) (w' : World) : Prop := x = .returned (.bool true) ∧ Below w.heap.size w w'
set_option maxHeartbeats 1000000 in
theorem told_any (w : World) : Calls Try.prog 8 #[] w (ToldPost w) := by
  go_enter Try.func8, Try.ntmps8
  go_wp2_with fail
  go_at_call 12
  refine (new_at 5 7 2 3 0 w (by decide)).mono ?_
  rintro x w1 ⟨g, rfl, hg, HB, hbl⟩
  go_wp2_with fail
  go_at_call 15
  refine (begin_at g 5 7 2 3 0 0 0 0 4 3 _ _ HB (by decide) (by decide) (by decide) rfl).mono ?_
  rintro x w2 ⟨rfl, HB2, ho2⟩
  go_wp2_with fail
  go_at_call 15
  refine (begin_at g 5 7 2 3 0 0 0 0 3 0 _ _ HB2 (by decide) (by decide) (by decide) rfl).mono ?_
  rintro x w3 ⟨rfl, HB3, ho3⟩
  go_wp2_with fail
  go_at_call 16
  refine (room_at g 5 7 2 3 0 1 0 0 5 _ HB3 (by decide) (by decide) (by decide) (by decide) (by decide)).mono ?_
  rintro x w4 ⟨rfl, m, rfl⟩
  replace HB3 := Lib.hid (show (w3.drewN m).heap[g]? = _ from HB3.out)
  go_wp2_with fail
  go_at_call 18
  refine (data_at g 5 7 2 3 0 1 0 0 5 0 _ _ HB3 (by decide) (by decide) (by decide) (by decide) (by decide) rfl).mono ?_
  rintro x w4 ⟨rfl, HB4, ho4⟩
  go_wp2_with fail
  go_at_call 15
  refine (begin_at g 5 7 2 3 0 1 5 5 1 0 _ _ HB4 (by decide) (by decide) (by decide) rfl).mono ?_
  rintro x w5 ⟨rfl, HB5, ho5⟩
  go_wp2_with fail
  go_at_call 16
  refine (room_at g 5 7 2 3 0 2 5 0 2 _ HB5 (by decide) (by decide) (by decide) (by decide) (by decide)).mono ?_
  rintro x w6 ⟨rfl, m', rfl⟩
  replace HB5 := Lib.hid (show (w5.drewN m').heap[g]? = _ from HB5.out)
  go_wp2_with fail
  go_at_call 18
  refine (data_at g 5 7 2 3 0 2 5 0 3 3 _ _ HB5 (by decide) (by decide) (by decide) (by decide) (by decide) rfl).mono ?_
  rintro x w6 ⟨rfl, HB6, ho6⟩
  go_wp2_with fail
  go_at_call 9
  refine (over_at _ _ _ _ _ o1).mono ?_
  rintro x w' ⟨rfl, k1, rfl⟩
  go_wp2_with fail
  go_at_call 9
  refine (over_at _ _ _ _ _ o2).mono ?_
  rintro x w' ⟨rfl, k2, rfl⟩
  go_wp2_with fail
  go_ret
  refine ⟨rfl, ?_⟩
  have h : Only (fun k => w.heap.size ≤ k) w w6 :=
    (((((Only.of_below hbl (fun k => w.heap.size ≤ k)).trans ho2 (fun k hk => by subst hk; exact .inl hg)).trans ho3 (fun k hk => by subst hk; exact .inl hg)).trans ho4.undrew (fun k hk => by subst hk; exact .inl hg)).trans ho5 (fun k hk => by subst hk; exact .inl hg)).trans ho6.undrew (fun k hk => by subst hk; exact .inl hg)
  exact ((h.drewN _).below (Nat.le_refl _) (fun _ hk => hk))
end Go.Proofs.Ytilkgjjfamdhdaa.Walks
