/- The statements' common first check answers true, whatever memory holds. -/
import Derived.Test.YtplabbnmongbaaaPush
namespace Go.Proofs.Ytplabbnmongbaaa.Walks
open Go Go.RowKit Go.Proofs.Ytplabbnmongbaaa.Aid

theorem peek_at {w : World} {g : Nat} {P : List Int} {k : Nat} {e : Bool} (h : Hid (FeedAt w g P k e)) (n v : Int) (hv : peekV P k n = v) : Calls Try.prog 9 #[.pointer (some ⟨g, 0, none⟩), .int .i64 n] w fun x w' => x = .returned (.int .u32 v) ∧ ∃ m, w' = w.drewN m := by
  rw [← hv]; exact peek_any h.out n
theorem skip_at {w : World} {g : Nat} {P : List Int} {k : Nat} {e : Bool} (h : Hid (FeedAt w g P k e)) (n c : Int) (k' : Nat) (hc : skipC P k n = c) (hk : skipK P k n = k') :
    Calls Try.prog 10 #[.pointer (some ⟨g, 0, none⟩), .int .i64 n] w fun x w' => x = .returned (.int .i64 c) ∧ Hid (FeedAt w' g P k' e) ∧ Only (· = g) w w' := by
  refine (skip_any h.out n).mono fun x w' hp => ?_
  obtain ⟨h1, h2, h3⟩ := hp
  rw [hc] at h1; rw [hk] at h2
  exact ⟨h1, Lib.hid h2, h3⟩
theorem bits_at {w : World} {g : Nat} {P : List Int} {k : Nat} {e : Bool} (h : Hid (FeedAt w g P k e)) (v : Int) (hv : bitsOf P k = v) : Calls Try.prog 8 #[.pointer (some ⟨g, 0, none⟩)] w fun x w' => x = .returned (.int .i64 v) ∧ ∃ m, w' = w.drewN m := by
  rw [← hv]; exact bits_any h.out
theorem push_at {w : World} {g : Nat} {P : List Int} {k : Nat} (h : Hid (FeedAt w g P k false)) (A2 : Option Addr) (m : List Int) (M c2 : Nat) (hM : M = m.length) (hm : Rd w A2 m) (hb2 : ∀ c ∈ m, 0 ≤ c ∧ c < 256) (hs : P.length + m.length ≤ 1000000) :
    Calls Try.prog 7 #[.pointer (some ⟨g, 0, none⟩), .slice A2 M c2] w fun x w' => x = .returned (.tuple #[]) ∧ Hid (FeedAt w' g (P ++ m) k false) ∧ Only (· = g) w w' := by
  subst hM
  exact (push_any h.out A2 m c2 hm hb2 hs).mono fun _ _ hp => ⟨hp.1, Lib.hid hp.2.1, hp.2.2.1⟩
theorem new_at (w : World) : Calls Try.prog 6 #[] w fun x w' => ∃ g, x = .returned (.pointer (some ⟨g, 0, none⟩)) ∧ w.heap.size ≤ g ∧ Hid (FeedAt w' g [] 0 false) ∧ Below w.heap.size w w' :=
  (new_any w).mono fun _ _ ⟨g, h1, h2, h3, h4⟩ => ⟨g, h1, h2, Lib.hid h3, h4⟩
theorem rd_lit (w : World) (l : List Int) (t : TypeId) : Rd (w.alloc (.cells (ints l).toArray t)) (some ⟨w.heap.size, 0, none⟩) l := fun _ =>
  ⟨_, rfl, fun j hj => by
    rw [add_flat, Joins.cell_of_block (alloc_new _ _)]
    exact ints_at hj⟩
theorem never (S : Nat → Prop) (w : World) (h : ∀ k, S k → w.heap.size ≤ k) {b : Nat} {cs : Array Value} {t : TypeId} {f : Nat × Nat} (hb : w.heap[b]? = some (.cells cs t f)) : ¬ S b := fun hs => by
  have := Only.heap_lt hb; have := h b hs; omega
def ToldPost (w : World) (x : Ending) (w' : World) : Prop := x = .returned (.bool true) ∧ Below w.heap.size w w'
set_option maxHeartbeats 1000000 in
theorem told_any (w : World) : Calls Try.prog 5 #[] w (ToldPost w) := by
  go_enter Try.func5, Try.ntmps5
  go_wp2_with fail
  go_at_call 6
  refine (new_at w).mono ?_
  rintro x w1 ⟨g, rfl, hg, HF, hbl⟩
  go_wp2_with fail
  go_at_call 7
  have HF1 : Hid (FeedAt (w1.alloc (.cells (ints [29]).toArray 5)) g [] 0 false) := Lib.hid (HF.out.only ((Only.refl (fun _ => False) w1).alloc _) id (fun _ _ _ => id))
  refine (push_at HF1 _ [29] 1 1 rfl (rd_lit w1 [29] 5) (by decide) (by decide)).mono ?_
  rintro x w2 ⟨rfl, HF2, ho2⟩
  go_wp2_with fail
  go_at_call 9
  refine (peek_at HF2 3 5 (by decide)).mono ?_
  rintro x w' ⟨rfl, m1, rfl⟩
  go_wp2_with fail
  go_at_call 10
  refine (skip_at (Lib.hid (HF2.out.drewN m1)) 3 0 3 (by decide) (by decide)).mono ?_
  rintro x w3 ⟨rfl, HF3, ho3⟩
  go_wp2_with fail
  go_at_call 9
  refine (peek_at HF3 3 3 (by decide)).mono ?_
  rintro x w' ⟨rfl, m2, rfl⟩
  go_wp2_with fail
  go_at_call 8
  refine (bits_at (Lib.hid (HF3.out.drewN m2)) 5 (by decide)).mono ?_
  rintro x w' ⟨rfl, m3, rfl⟩
  go_wp2_with fail
  go_at_call 11
  refine (used_any (HF3.out.drewN _)).mono ?_
  rintro x w' ⟨rfl, rfl⟩
  go_wp2_with fail
  go_at_call 10
  refine (skip_at (Lib.hid (HF3.out.drewN _)) 6 5 3 (by decide) (by decide)).mono ?_
  rintro x w4 ⟨rfl, HF4, ho4⟩
  go_wp2_with fail
  go_at_call 18
  refine (ended_any HF4.out).mono ?_
  rintro x w' ⟨rfl, rfl⟩
  go_wp2_with fail
  go_ret
  refine ⟨rfl, ?_⟩
  have ho : Only (fun k => w.heap.size ≤ k) w w' :=
    ((((Only.of_below hbl (fun k => w.heap.size ≤ k)).alloc _).trans ho2 (fun k hk => by subst hk; exact .inl hg)).trans ho3.undrew (fun k hk => by subst hk; exact .inl hg)).trans ho4.undrew (fun k hk => by subst hk; exact .inl hg)
  exact ho.below (Nat.le_refl _) (fun _ hk => hk)
end Go.Proofs.Ytplabbnmongbaaa.Walks
