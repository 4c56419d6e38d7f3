/- Contracts of the feed's methods that write. -/
import Derived.Test.YtplabbnmongbaaaSt
namespace Go.Proofs.Ytplabbnmongbaaa.Walks
open Go Go.RowKit Go.Proofs.Ytplabbnmongbaaa.Aid

def NewPost (w : World) (x : Ending) (w' : World) : Prop := ∃ g, x = .returned (.pointer (some ⟨g, 0, none⟩)) ∧ w.heap.size ≤ g ∧ FeedAt w' g [] 0 false ∧ Below w.heap.size w w'
theorem new_any (w : World) : Calls Try.prog 6 #[] w (NewPost w) := by
  go_enter Try.func6, Try.ntmps6
  go_wp2_with fail
  go_ret
  refine ⟨w.heap.size, rfl, Nat.le_refl _, ⟨⟨none, 0, alloc_new _ _, Nat.le_refl _, fun h => by simp at h⟩, by simp, by simp, fun _ h => by cases h⟩, (Below.refl _ _).alloc (Nat.le_refl _) _⟩
def EndPost (w : World) (g : Nat) (P : List Int) (k : Nat) (x : Ending) (w' : World) : Prop := x = .returned (.tuple #[]) ∧ FeedAt w' g P k true ∧ Only (· = g) w w'
theorem end_any {w : World} {g : Nat} {P : List Int} {k : Nat} {e : Bool} (h : FeedAt w g P k e) : Calls Try.prog 17 #[.pointer (some ⟨g, 0, none⟩)] w (EndPost w g P k) := by
  obtain ⟨⟨A, cap, hb, hc, hh⟩, hle, hsm, hby⟩ := h
  have c3 : w.cell? ⟨g, 3, none⟩ = _ := Joins.cell_of_block hb 3
  simp only [List.getElem?_toArray, List.getElem?_cons_zero, List.getElem?_cons_succ] at c3
  have f3 := Joins.unfrozen_of_block hb 3
  have HB := Lib.hid hb
  have HH := Lib.hid hh
  clear hb hh
  go_enter Try.func17, Try.ntmps17
  go_wp2_with fail
  go_end0
  have ho := (Only.refl (· = g) w).setCell (S := (· = g)) (p := ⟨g, 3, none⟩) (Or.inl rfl) (.bool true)
  exact ⟨rfl, ⟨⟨A, cap, Joins.block_setCell HB.out _, hc, HH.out.only ho (fun b cs hb' e => by subst e; exact cells_ne HB.out hb' (by decide) rfl)⟩, hle, hsm, hby⟩, ho⟩
theorem add_flat (b o j : Nat) : (⟨b, o, none⟩ : Addr).add j = ⟨b, o + j, none⟩ := by unfold Addr.add; split <;> simp_all
theorem feed_next {w W : World} {g : Nat} {P : List Int} {k N L K U : Nat} {e : Bool} {A A' : Option Addr} {cap j : Nat} {bI uI : Int} (h : FeedAt w g P k e)
    (hh : Held w A (P.drop (k / 8))) (hL : L = (P.drop (k / 8)).length) (hK : K = k % 8) (hU : U = k / 8) (hc : L ≤ cap) (hj : j = (K + N) / 8) (hN : K + N ≤ 8 * L)
    (hA : A' = if cap = j then A else A.map (fun x => x.add j)) (hb : bI = ((K + N) % 8 : Nat)) (hu : uI = (U + j : Nat))
    (hW : W.heap[g]? = some (.cells #[.slice A' (L - j) (cap - j), .int .i64 bI, .int .i64 uI, .bool e] 44 (0, 0))) (ho : Only (· = g) w W) : FeedAt W g P (k + N) e := by
  obtain ⟨⟨A0, cap0, h1, h2, h3⟩, h4, h5, h6⟩ := h
  have hl : (P.drop (k / 8)).length = P.length - k / 8 := List.length_drop
  have hl2 : (P.drop ((k + N) / 8)).length = P.length - (k + N) / 8 := List.length_drop
  have e1 : (P.drop ((k + N) / 8)).length = L - j := by rw [hl2, hL, hl]; omega
  have e2 : (k + N) % 8 = (K + N) % 8 := by omega
  have e3 : (k + N) / 8 = U + j := by omega
  refine ⟨⟨A', cap - j, ?_, by rw [e1]; omega, ?_⟩, by omega, h5, h6⟩
  · rw [hW, e1, e2, e3, hb, hu]
  · intro hp
    rw [e1] at hp
    obtain ⟨b, o, cs, hAe, hblk, hcs⟩ := hh (by omega)
    have hne : b ≠ g := cells_ne h1 hblk (by decide)
    refine ⟨b, o + j, cs, ?_, ho.keeps hblk hne, fun i hi => ?_⟩
    · rw [hA, if_neg (by omega), hAe]; simp only [Option.map_some, add_flat]
    · rw [e1] at hi
      have := hcs (j + i) (by omega)
      rw [← Nat.add_assoc] at this
      rw [this]
      congr 2
      simp only [List.getD_eq_getElem?_getD, List.getElem?_drop]
      congr 2
      omega
theorem only4 (w : World) (g m i1 i2 i3 i4 : Nat) (v1 v2 v3 v4 : Value) : Only (· = g) w ((((((w.drewN m).setCell ⟨g, i1, none⟩ v1).setCell ⟨g, i2, none⟩ v2).setCell ⟨g, i3, none⟩ v3).setCell ⟨g, i4, none⟩ v4).drew) :=
  (((((((Only.refl (· = g) w).drewN m).setCell (S := (· = g)) (p := ⟨g, i1, none⟩) (Or.inl rfl) v1).setCell (S := (· = g)) (p := ⟨g, i2, none⟩) (Or.inl rfl) v2).setCell (S := (· = g)) (p := ⟨g, i3, none⟩) (Or.inl rfl) v3).setCell (S := (· = g)) (p := ⟨g, i4, none⟩) (Or.inl rfl) v4).drew)
theorem heap4 {w : World} {g m : Nat} {a b c d : Value} {t : TypeId} (hb : w.heap[g]? = some (.cells #[a, b, c, d] t (0, 0))) (v1 v0 v1' v2 : Value) :
    ((((((w.drewN m).setCell ⟨g, 1, none⟩ v1).setCell ⟨g, 0, none⟩ v0).setCell ⟨g, 1, none⟩ v1').setCell ⟨g, 2, none⟩ v2).drew).heap[g]? = some (.cells #[v0, v1', v2, d] t (0, 0)) := by
  have h1 := Joins.block_setCell (w := w.drewN m) (g := g) (i := 1) (show (w.drewN m).heap[g]? = _ from hb) v1
  have h2 := Joins.block_setCell (i := 0) h1 v0
  have h3 := Joins.block_setCell (i := 1) h2 v1'
  have h4 := Joins.block_setCell (i := 2) h3 v2
  exact h4
theorem feed_skip {w : World} {g : Nat} {P : List Int} {k N L K U m cap' : Nat} {e : Bool} {A A' : Option Addr} {cap : Nat} {bI uI : Int} {v1 : Value} (h : FeedAt w g P k e)
    (h0 : w.heap[g]? = some (.cells #[.slice A (P.drop (k / 8)).length cap, .int .i64 ((k % 8 : Nat) : Int), .int .i64 ((k / 8 : Nat) : Int), .bool e] 44 (0, 0)))
    (hh : Held w A (P.drop (k / 8))) (hL : L = (P.drop (k / 8)).length) (hK : K = k % 8) (hU : U = k / 8) (hc : L ≤ cap) (hN : K + N ≤ 8 * L)
    (hA : A' = if cap = (K + N) / 8 then A else A.map (fun x => x.add ((K + N) / 8))) (hcap : cap' = cap - (K + N) / 8) (hb : bI = ((K : Int) + N) % 8) (hu : uI = (U : Int) + ((K : Int) + N) / 8) :
    FeedAt (((((w.drewN m).setCell ⟨g, 1, none⟩ v1).setCell ⟨g, 0, none⟩ (.slice A' (L - (K + N) / 8) cap')).setCell ⟨g, 1, none⟩ (.int .i64 bI)).setCell ⟨g, 2, none⟩ (.int .i64 uI)).drew g P (k + N) e :=
  feed_next (bI := bI) (uI := uI) h hh hL hK hU hc rfl hN hA (by rw [hb]; omega) (by rw [hu]; omega) (by rw [← hcap]; exact heap4 h0 _ _ _ _) (only4 _ _ _ _ _ _ _ _ _ _ _)
def skipC (P : List Int) (k : Nat) (n : Int) : Int := if n < 0 then 1 else if n > bitsOf P k then 5 else 0
def skipK (P : List Int) (k : Nat) (n : Int) : Nat := if skipC P k n = 0 then k + n.toNat else k
def SkipPost (w : World) (g : Nat) (P : List Int) (k : Nat) (e : Bool) (n : Int) (x : Ending) (w' : World) : Prop :=
  x = .returned (.int .i64 (skipC P k n)) ∧ FeedAt w' g P (skipK P k n) e ∧ Only (· = g) w w'
set_option maxHeartbeats 1000000 in
theorem skip_any {w : World} {g : Nat} {P : List Int} {k : Nat} {e : Bool} (h : FeedAt w g P k e) (n : Int) : Calls Try.prog 10 #[.pointer (some ⟨g, 0, none⟩), .int .i64 n] w (SkipPost w g P k e n) := by
  have HF := Lib.hid h
  by_cases d1 : n < 0
  · have hC : skipC P k n = 1 := by unfold skipC; rw [if_pos d1]
    have hK : skipK P k n = k := by unfold skipK; rw [hC, if_neg (by decide)]
    have HC := Lib.hid hC
    have HK := Lib.hid hK
    clear hC hK h
    go_enter Try.func10, Try.ntmps10
    go_wp2_with fail
    go_ret
    unfold SkipPost
    rw [HC.out, HK.out]
    exact ⟨rfl, HF.out, Only.refl _ _⟩
  · have d1' : decide (n < 0) = false := by simpa using d1
    by_cases d2 : n > bitsOf P k
    · have hC : skipC P k n = 5 := by unfold skipC; rw [if_neg d1, if_pos d2]
      have hK : skipK P k n = k := by unfold skipK; rw [hC, if_neg (by decide)]
      have HC := Lib.hid hC
      have HK := Lib.hid hK
      clear hC hK h
      go_enter Try.func10, Try.ntmps10
      go_wp2_with fail
      go_at_call 8
      refine (bits_any HF.out).mono ?_
      rintro x w' ⟨rfl, m, rfl⟩
      go_wp2_with fail
      go_ret
      unfold SkipPost
      rw [HC.out, HK.out]
      exact ⟨rfl, HF.out.drewN _, (Only.refl _ _).drewN _⟩
    · have d2' : decide (n > bitsOf P k) = false := by simpa using d2
      have hC : skipC P k n = 0 := by unfold skipC; rw [if_neg d1, if_neg d2]
      have hK : skipK P k n = k + n.toNat := by unfold skipK; rw [hC, if_pos rfl]
      have HC := Lib.hid hC
      have HK := Lib.hid hK
      clear hC hK
      obtain ⟨⟨A, cap, hb, hc, hh⟩, hle, hsm, hby⟩ := h
      have c0 : w.cell? ⟨g, 0, none⟩ = _ := Joins.cell_of_block hb 0
      have c1 : w.cell? ⟨g, 1, none⟩ = _ := Joins.cell_of_block hb 1
      have c2 : w.cell? ⟨g, 2, none⟩ = _ := Joins.cell_of_block hb 2
      simp only [List.getElem?_toArray, List.getElem?_cons_zero, List.getElem?_cons_succ] at c0 c1 c2
      have f0 := Joins.unfrozen_of_block hb 0
      have f1 := Joins.unfrozen_of_block hb 1
      have f2 := Joins.unfrozen_of_block hb 2
      have hl : (P.drop (k / 8)).length = P.length - k / 8 := List.length_drop
      have HB := Lib.hid hb
      have HH := Lib.hid hh
      clear hb hh
      obtain ⟨L, hLe⟩ : ∃ L, L = (P.drop (k / 8)).length := ⟨_, rfl⟩
      obtain ⟨K, hKe⟩ : ∃ K, K = k % 8 := ⟨_, rfl⟩
      obtain ⟨U, hUe⟩ : ∃ U, U = k / 8 := ⟨_, rfl⟩
      obtain ⟨N, rfl⟩ := Int.eq_ofNat_of_zero_le (show 0 ≤ n by omega)
      rw [← hLe] at c0 hc
      rw [← hKe] at c1
      rw [← hUe] at c2
      have bK : K < 8 := by omega
      have bN : K + N ≤ 8 * L := by unfold bitsOf at d2; omega
      have bL : L ≤ 1000000 := by omega
      have bU : U ≤ 1000000 := by omega
      have HX := Lib.hid (And.intro hLe (And.intro hKe (And.intro hUe (And.intro hl (And.intro hle hsm)))))
      clear hLe hKe hUe hl hle hsm d2
      have bI : ((K : Int) + N) / 8 ≤ L := by omega
      go_enter Try.func10, Try.ntmps10
      go_wp2_with fail
      go_at_call 8
      refine (bits_any HF.out).mono ?_
      rintro x w' ⟨rfl, m, rfl⟩
      go_wp2_with fail
      go_region
      go_wp2_with fail
      all_goals go_ret
      all_goals
        have HK2 : skipK P k (N : Int) = k + N := by rw [HK.out, Int.toNat_natCast]
        unfold SkipPost
        rw [HK2]
        obtain ⟨x1, x2, x3, x4, x5, x6⟩ := HX.out
        rw [HC.out]
        refine ⟨rfl, ?_, only4 _ _ _ _ _ _ _ _ _ _ _⟩
        refine feed_skip (cap := cap) HF.out HB.out HH.out x1 x2 x3 (by omega) bN ?_ (by omega) rfl rfl
        first | (rw [if_pos (by assumption)]; done) | (rw [if_neg (by assumption)])
end Go.Proofs.Ytplabbnmongbaaa.Walks
