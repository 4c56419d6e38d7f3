/- Contracts of Align and Take. -/
import Derived.Test.YtplabbnmongbaaaTold
import Derived.Test.YtplabbnmongbaaaOwnB
namespace Go.Proofs.Ytplabbnmongbaaa.Walks
open Go Go.RowKit Go.Proofs.Ytplabbnmongbaaa.Aid Go.Proofs.Ytplabbnmongbaaa.Own Go.Proofs.YtplabbnmongbaaaW.PrintWords

/-- The place behind a step to the next byte. -/
def al (k : Nat) : Nat := (k + 7) / 8 * 8
def AlPost (w : World) (g : Nat) (P : List Int) (k : Nat) (e : Bool) (x : Ending) (w' : World) : Prop := x = .returned (.tuple #[]) ∧ FeedAt w' g P (al k) e ∧ Only (· = g) w w'
set_option maxHeartbeats 1000000 in
theorem align_any {w : World} {g : Nat} {P : List Int} {k : Nat} {e : Bool} (h : FeedAt w g P k e) : Calls Try.prog 14 #[.pointer (some ⟨g, 0, none⟩)] w (AlPost w g P k e) := by
  have HF := Lib.hid h
  obtain ⟨⟨A, cap, hb, hc, hh⟩, hle, hsm, hby⟩ := h
  have c1 : w.cell? ⟨g, 1, none⟩ = _ := Joins.cell_of_block hb 1
  simp only [List.getElem?_toArray, List.getElem?_cons_zero, List.getElem?_cons_succ] at c1
  clear hb hh hby hc
  obtain ⟨K, hK⟩ : ∃ K, K = k % 8 := ⟨_, rfl⟩
  rw [← hK] at c1
  have bK : K < 8 := by omega
  by_cases hz : 0 < K
  · have hz' : decide ((K : Int) > 0) = true := by simp; omega
    have ew : wrap64 (8 - (K : Int)) = 8 - K := wrap64_in (by omega) (by omega)
    have hC : skipC P k (8 - (K : Int)) = 0 := by
      unfold skipC bitsOf
      rw [if_neg (by omega), if_neg (by omega)]
    have hK2 : skipK P k (8 - (K : Int)) = al k := by
      unfold skipK al
      rw [hC, if_pos rfl]
      omega
    have HC := Lib.hid hC
    have HK2 := Lib.hid hK2
    clear hC hK2 hK hle hsm
    go_enter Try.func14, Try.ntmps14
    go_wp2_with fail
    go_at_call 10
    refine (skip_at HF (8 - (K : Int)) 0 _ HC.out HK2.out).mono ?_
    rintro x w4 ⟨rfl, HF4, ho4⟩
    go_wp2_with fail
    go_end0
    exact ⟨rfl, HF4.out, ho4⟩
  · have hz' : decide ((K : Int) > 0) = false := by simp; omega
    have HK := Lib.hid (show al k = k by unfold al; omega)
    clear hK hle hsm
    go_enter Try.func14, Try.ntmps14
    go_wp2_with fail
    go_end0
    exact ⟨rfl, by rw [HK.out]; exact HF.out, Only.refl _ _⟩
def TakePost (w : World) (g : Nat) (P : List Int) (k : Nat) (e : Bool) (n : Int) (x : Ending) (w' : World) : Prop :=
  (n < 0 → x = .returned (.tuple #[.slice none 0 0, .int .i64 1]) ∧ w' = w) ∧
  (0 ≤ n → n > ((P.length - al k / 8 : Nat) : Int) → x = .returned (.tuple #[.slice none 0 0, .int .i64 5]) ∧ FeedAt w' g P (al k) e ∧ Only (· = g) w w') ∧
  (0 ≤ n → n ≤ ((P.length - al k / 8 : Nat) : Int) → ∃ A c, x = .returned (.tuple #[.slice A n.toNat c, .int .i64 0]) ∧ RdK .u8 w' A ((P.drop (al k / 8)).take n.toNat) ∧ FeedAt w' g P (al k + 8 * n.toNat) e ∧ Only (· = g) w w')
set_option maxHeartbeats 4000000 in
theorem take_any {w : World} {g : Nat} {P : List Int} {k : Nat} {e : Bool} (h : FeedAt w g P k e) (n : Int) : Calls Try.prog 15 #[.pointer (some ⟨g, 0, none⟩), .int .i64 n] w (TakePost w g P k e n) := by
  have HF := Lib.hid h
  by_cases d1 : n < 0
  · have d1' : decide (n < 0) = true := decide_eq_true d1
    clear h
    go_enter Try.func15, Try.ntmps15
    go_wp2_with fail
    go_ret2
    exact ⟨fun _ => ⟨rfl, rfl⟩, fun h => absurd h (by omega), fun h => absurd h (by omega)⟩
  · have d1' : decide (n < 0) = false := decide_eq_false d1
    clear h
    go_enter Try.func15, Try.ntmps15
    go_wp2_with fail
    go_at_call 14
    refine (align_any HF.out).mono ?_
    rintro x w1 ⟨rfl, hF1, ho1⟩
    have HF1 := Lib.hid hF1
    obtain ⟨⟨A, cap, hb, hc, hh⟩, hle, hsm, hby⟩ := hF1
    have c0 : w1.cell? ⟨g, 0, none⟩ = _ := Joins.cell_of_block hb 0
    have c2 : w1.cell? ⟨g, 2, none⟩ = _ := Joins.cell_of_block hb 2
    simp only [List.getElem?_toArray, List.getElem?_cons_zero, List.getElem?_cons_succ] at c0 c2
    have f0 := Joins.unfrozen_of_block hb 0
    have f2 := Joins.unfrozen_of_block hb 2
    have hl : (P.drop (al k / 8)).length = P.length - al k / 8 := List.length_drop
    have HBk := Lib.hid hb
    have HH := Lib.hid hh
    obtain ⟨L, hLe⟩ : ∃ L, L = (P.drop (al k / 8)).length := ⟨_, rfl⟩
    obtain ⟨U, hUe⟩ : ∃ U, U = al k / 8 := ⟨_, rfl⟩
    rw [← hLe] at c0 hc
    rw [← hUe] at c2
    have bL : L ≤ 1000000 := by omega
    have bU : U ≤ 1000000 := by omega
    have hLe' := Lib.hid hLe
    have hl' := Lib.hid (show L = P.length - al k / 8 by rw [hLe, hl])
    have hUe' := Lib.hid hUe
    clear hb hh hle hsm hby hl hLe hUe
    by_cases d2 : n > (L : Int)
    · have d2' : decide (n > (L : Int)) = true := decide_eq_true d2
      go_wp2_with fail
      go_ret2
      exact ⟨fun h => absurd h (by omega), fun _ _ => ⟨rfl, HF1.out, ho1⟩, fun _ h => absurd h (by have := hl'.out; omega)⟩
    · have d2' : decide (n > (L : Int)) = false := decide_eq_false d2
      obtain ⟨N, rfl⟩ := Int.eq_ofNat_of_zero_le (show 0 ≤ n by omega)
      have bN : N ≤ L := by omega
      obtain ⟨ys, hys⟩ : ∃ ys, ys = (P.drop (al k / 8)).take N := ⟨_, rfl⟩
      have hN : N = ys.length := by rw [hys, List.length_take, ← hLe'.out]; omega
      have HY := Lib.hid (show ys = (P.drop (al k / 8)).take ys.length by rw [← hN]; exact hys)
      have RY : RdK .u8 w1 A ys := fun h0 => by
        obtain ⟨ad, e1, hcs⟩ := HH.out.rd (by rw [← hLe'.out]; omega)
        refine ⟨ad, e1, fun j hj => ?_⟩
        rw [hcs j (by rw [← hLe'.out]; omega), hys]
        congr 2
        rw [List.getD_eq_getElem?_getD, List.getD_eq_getElem?_getD, List.getElem?_take, if_pos (by omega)]
      have HRY := Lib.hid RY
      clear RY hys
      subst hN
      have bcap : (ys.length : Int) ≤ (cap : Int) := by omega
      go_wp2_with (first
        | (with_reducible refine gate 22 rfl ?_
           refine own_empty (base := w1.heap.size) (w0 := w1) rfl rfl ?hr (Below.refl _ _) (Nat.le_refl _) ?_
           (case hr => first | (go_simp; done) | (go_simp; rfl))
           intro v1 u1 hO1 hB1 hs1
           have c1 := (hB1.cell (World.block_lt_of_cell? w1 _ c0)).trans c0)
        | (with_reducible refine gate 29 rfl ?_
           refine own_append (base := w1.heap.size) (w0 := w1) rfl (.tmp 22) (.tmp 28) rfl v1 [] ys A cap rfl rfl hO1 (HRY.out.below hB1) hB1 hB1.size (by simp; omega) ?_
           intro v2 u2 hO2 hB2 hs2))
      have c0 := (hB2.cell (World.block_lt_of_cell? w1 _ (by assumption : w1.cell? ⟨g, 0, none⟩ = some (.slice A L cap)))).trans (by assumption : w1.cell? ⟨g, 0, none⟩ = some (.slice A L cap))
      have hlt := Only.heap_lt HBk.out
      have f0 := (hB2.frozen (p := ⟨g, 0, none⟩) hlt).trans f0
      have f2 := (hB2.frozen (p := ⟨g, 2, none⟩) hlt).trans f2
      have c2 := (hB2.cell (World.block_lt_of_cell? w1 _ c2)).trans c2
      have hbu := Lib.hid ((hB2.block _ (Only.heap_lt HBk.out)).trans HBk.out)
      have hO2' := Lib.hid hO2
      have hB2' := Lib.hid hB2
      clear hO1 hO2 hB1 hB2 hs1 hs2
      go_region
      generalize hA2 : (if cap = ys.length then A else Option.map (fun x => x.add ys.length) A) = A2
      have HA2 := Lib.hid hA2
      clear hA2
      go_wp2_with fail
      go_ret2
      refine ⟨fun h => absurd h (by omega), fun _ h => absurd h (by have := hl'.out; omega), fun _ _ => ?_⟩
      have hs1 := Joins.block_setCell (i := 0) hbu.out (.slice A2 (L - ys.length) (cap - ys.length))
      have hOW : Own w1.heap.size _ v2 ys := Kd.R_drew (Kd.R_set (Kd.R_set (by have := hO2'.out; rw [List.nil_append] at this; exact this) hbu.out (by simp [Kd.int, Kd.scalar]) 0 (.slice A2 (L - ys.length) (cap - ys.length))) hs1 (by simp [Kd.int, Kd.scalar]) 2 (.int .i64 ((U : Int) + ys.length)))
      obtain ⟨A', c', rfl, hR⟩ := hOW.rd
      have ho : Only (· = g) w1 _ := (((Only.of_below hB2'.out (· = g)).setCell (S := (· = g)) (p := ⟨g, 0, none⟩) (Or.inl rfl) (.slice A2 (L - ys.length) (cap - ys.length))).setCell (S := (· = g)) (p := ⟨g, 2, none⟩) (Or.inl rfl) (.int .i64 ((U : Int) + ys.length))).drew
      refine ⟨A', c', rfl, ?_, ?_, ho1.trans' ho⟩
      · rw [Int.toNat_natCast, ← HY.out]; exact hR
      · rw [Int.toNat_natCast]
        refine feed_next (k := al k) (N := 8 * ys.length) (K := 0) (L := L) (U := U) (j := ys.length) (cap := cap) (bI := ((al k % 8 : Nat) : Int)) (uI := (U : Int) + ys.length) HF1.out HH.out hLe'.out ?_ hUe'.out hc ?_ ?_ HA2.out.symm ?_ ?_ ?_ ho
        · unfold al; omega
        · omega
        · omega
        · unfold al; omega
        · omega
        · exact Joins.block_setCell (i := 2) hs1 _
end Go.Proofs.Ytplabbnmongbaaa.Walks
