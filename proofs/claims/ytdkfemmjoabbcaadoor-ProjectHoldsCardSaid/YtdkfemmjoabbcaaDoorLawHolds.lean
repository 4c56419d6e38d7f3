/- ProjectHolds. -/
import Derived.Test.YtdkfemmjoabbcaaDoorHold
namespace Go.Proofs.YtdkfemmjoabbcaaDoor.Walks
open Go Go.RowKit Go.Proofs.YtdkfemmjoabbcaaDoor.Aid Go.Proofs.YtdkfemmjoabbcaaDoor.Pth Go.Proofs.YtdkfemmjoabbcaaDoor.Own Go.Proofs.YtdkfemmjoabbcaaDoorW.PrintWords

theorem all1 {α : Type} {P : α → Prop} {a : α} (h : P a) : ∀ e ∈ [a], P e := fun e he => by rw [List.mem_singleton.1 he]; exact h
theorem all2 {α : Type} {P : α → Prop} {a b : α} (h : P a) (k : P b) : ∀ e ∈ [a, b], P e := fun e he => by
  rcases List.mem_cons.1 he with rfl | he
  · exact h
  · exact all1 k e he
theorem all3 {α : Type} {P : α → Prop} {a b c : α} (h : P a) (k : P b) (l : P c) : ∀ e ∈ [a, b, c], P e := fun e he => by
  rcases List.mem_cons.1 he with rfl | he
  · exact h
  · exact all2 k l e he
set_option maxRecDepth 100000 in
set_option maxHeartbeats 4000000 in
theorem holds_law (w : World) (A : Option Addr) (c : Nat) (D : Str) (md : Int) (t : Nat) (hl : D.length ≤ 9223372036854775807) (hc : D.length ≤ c) (hR : RdU w A D) (hm : MaxLen w) :
    Calls Tryd.prog 4 #[.slice A D.length c, .int .i64 md, .float .f64 t] w (BoolPost true w) := by
  obtain ⟨n, hn⟩ : ∃ n, D.length = n := ⟨_, rfl⟩
  rw [hn] at hl
  have HN := Lib.hid hn
  have HM := Lib.hid hm
  have HR := Lib.hid (show EntAt w (fE (md % 4096) t D) A c from ⟨hR, hc⟩)
  rw [hn]
  by_cases c1 : n > 100
  · have d1 : decide ((n : Int) > 100) = true := decide_eq_true (by omega)
    have d1' : decide (100 < n) = true := decide_eq_true (by omega)
    clear hn hm hR hc c1
    go_enter Tryd.func4, Tryd.ntmps4
    go_wp2_with fail
    refine (told_any _ HM.out).mono ?_
    rintro x w1 ⟨rfl, ho⟩
    have HO := Lib.hid ho
    clear ho
    go_wp2_with fail
    go_ret
    exact ⟨rfl, HO.out⟩
  have d1 : decide ((n : Int) > 100) = false := decide_eq_false (by omega)
  have d1' : decide (100 < n) = false := decide_eq_false (by omega)
  have HD := Lib.hid (show D.length ≤ 100 by omega)
  have hmb : bits .and .i64 md 4095 = md % 4096 := mask_any stays_i64 (i := 12) (by decide) md
  have hm0 := Int.emod_nonneg md (show (4096 : Int) ≠ 0 by decide)
  have hm1 := Int.emod_lt_of_pos md (show (0 : Int) < 4096 by decide)
  obtain ⟨m, hmm⟩ : ∃ m, md % 4096 = m := ⟨_, rfl⟩
  rw [hmm] at hmb hm0 hm1 HR
  have HM0 := Lib.hid hm0
  have HM1 := Lib.hid (show m ≤ 4095 by omega)
  clear hn hm hR hc c1 hmm hm0 hm1
  go_enter Tryd.func4, Tryd.ntmps4
  go_upto_region 4 with ((with_reducible refine gate_store 25 rfl ?_); refine store_newE rfl rfl (fE m t D) A c _ _ rfl rfl (by rw [eval, erow]; dsimp only [fE]; rw [HN.out]; rfl) ?_; intro w1 hb1 ho1)
  obtain ⟨g7, hg7⟩ : ∃ g7, w.heap.size = g7 := ⟨_, rfl⟩
  rw [hg7] at hb1 ⊢
  have HG7 := Lib.hid (show w.heap.size ≤ g7 by omega)
  clear hg7 d1 d1'
  go_upto_region 5 with ((with_reducible refine gate_store 25 rfl ?_); refine store_newE rfl rfl (dE m t) none 0 _ _ rfl rfl rfl ?_; intro w2 hb2 ho2)
  obtain ⟨g8, hg8⟩ : ∃ g8, w1.heap.size = g8 := ⟨_, rfl⟩
  rw [hg8] at hb2 ⊢
  go_upto_region 6 with ((with_reducible refine gate_store 25 rfl ?_); refine store_newE rfl rfl (hE t) none 0 _ _ rfl rfl rfl ?_; intro w3 hb3 ho3)
  obtain ⟨g9, hg9⟩ : ∃ g9, w2.heap.size = g9 := ⟨_, rfl⟩
  rw [hg9] at hb3 ⊢
  go_upto_region 7 with ((with_reducible refine gate_store 25 rfl ?_); refine store_newE rfl rfl (kE t) none 0 _ _ rfl rfl rfl ?_; intro w4 hb4 ho4)
  obtain ⟨g10, hg10⟩ : ∃ g10, w3.heap.size = g10 := ⟨_, rfl⟩
  rw [hg10] at hb4 ⊢
  have HF : Four w g7 g8 g9 g10 m t (fE m t D) A c w4 := ⟨ho4.keeps (ho3.keeps (ho2.keeps hb1 id) id) id, ho4.keeps (ho3.keeps hb2 id) id, ho4.keeps hb3 id, hb4, ((ho1.trans' ho2).trans' ho3).trans' ho4⟩
  have N8 := Lib.hid (show g8 ≠ g7 by have := Only.heap_lt hb1; omega)
  have N9 := Lib.hid (show g9 ≠ g7 by have := Only.heap_lt (ho2.keeps hb1 id); omega)
  have N10 := Lib.hid (show g10 ≠ g7 by have := Only.heap_lt (ho3.keeps (ho2.keeps hb1 id) id); omega)
  replace HF := Lib.hid HF
  clear hb1 hb2 hb3 hb4 ho1 ho2 ho3 ho4 hg8 hg9 hg10
  clear w1 w2 w3
  go_upto_region 8 with (fail)
  go_loopw [11] (fun v11 u => ∃ i : Int, v11 = .int .i64 i ∧ 1 ≤ i ∧ i ≤ 6 ∧ Hid (Four w g7 g8 g9 g10 m t (fE m t D) A c u)) (fun i _ => (6 - intOf i).toNat)
  case atStart => exact ⟨1, rfl, by decide, by decide, HF⟩
  case round =>
    clear HF
    obtain ⟨i, rfl, hi, hj, HF⟩ := hrel
    by_cases ci : i ≤ 5
    · have d5 : decide (i ≤ 5) = true := decide_eq_true ci
      have HRf := Lib.hid (rep_f (t := t) HM0.out HM1.out HD.out hi ci)
      have HRd := Lib.hid (rep_dfk (t := t) HM0.out HM1.out HD.out hi ci)
      have HRn := Lib.hid (rep_nil hi ci)
      have HRh := Lib.hid (rep_hf (m := m) (t := t) (D := D) hi ci)
      have HRw := Lib.hid (rep_fh (t := t) HM0.out HM1.out HD.out hi ci)
      go_upto_region 12 with (first
        | ((with_reducible refine gate 35 rfl ?_); refine load_ent rfl _ rfl rfl HF.out.b7 ?_)
        | ((with_reducible refine gate 36 rfl ?_); refine build1 rfl _ rfl (fE m t D, A, c) rfl (all1 (HR.out.only HF.out.only)) ?_; intro b1 x1 hr1 ho1; have HRe1 := Lib.hid hr1; have HFa := Lib.hid (HF.out.step ho1); clear hr1 ho1)
        | (go_at_call 12; have q := rep_any (l := [fE m t D]) (n := 1) (c := 1) i rfl (by decide) HRe1.out (all1 (ok_f HD.out)) (HM.out.only HFa.out.only); (with_reducible refine q.mono ?_); clear q; rintro x y1 ⟨rfl, ho⟩; rw [HRf.out]; have HF1 := Lib.hid (HFa.out.step ho); clear ho))
      clear HF HRf HFa HRe1
      clear x1
      obtain ⟨rn, hrn⟩ : ∃ rn, repL [] i = rn := ⟨_, rfl⟩
      have HRn2 := Lib.hid hrn
      obtain ⟨rd, hrd⟩ : ∃ rd, repL [dE m t, fE m t D, kE t] i = rd := ⟨_, rfl⟩
      have HRd2 := Lib.hid hrd
      have tn := HRn.out
      have td := HRd.out
      rw [hrn] at tn
      rw [hrd] at td
      obtain ⟨bm, hbm⟩ : ∃ bm, decide (i ≤ 3) = bm := ⟨_, rfl⟩
      rw [hbm] at tn td
      clear hrn hrd HRn HRd
      cases bm
      · go_upto_region 15 with (first
          | ((with_reducible refine gate 48 rfl ?_); (refine gate_guard (by rfl) ?_; dsimp only); refine load_ent rfl _ rfl rfl HFn.out.b8 ?_)
          | ((with_reducible refine gate 49 rfl ?_); (refine gate_guard (by rfl) ?_; dsimp only); refine load_ent rfl _ rfl rfl HFn.out.b7 ?_)
          | ((with_reducible refine gate 50 rfl ?_); (refine gate_guard (by rfl) ?_; dsimp only); refine load_ent rfl _ rfl rfl HFn.out.b10 ?_)
          | ((with_reducible refine gate 51 rfl ?_); (refine gate_guard (by rfl) ?_; dsimp only); refine build3 rfl _ _ _ rfl (dE m t, none, 0) (fE m t D, A, c) (kE t, none, 0) rfl rfl rfl (all3 ⟨RdU.nil _ _, Nat.le_refl _⟩ (HR.out.only HFn.out.only) ⟨RdU.nil _ _, Nat.le_refl _⟩) ?_; intro b2 x2 hr2 ho2; have HRe2 := Lib.hid hr2; have HFb := Lib.hid (HFn.out.step ho2); clear hr2 ho2)
          | ((with_reducible refine gate 59 rfl ?_); (refine gate_guard (by rfl) ?_; dsimp only); refine load_ent rfl _ rfl rfl HFd.out.b9 ?_)
          | ((with_reducible refine gate 60 rfl ?_); (refine gate_guard (by rfl) ?_; dsimp only); refine load_ent rfl _ rfl rfl HFd.out.b7 ?_)
          | ((with_reducible refine gate 61 rfl ?_); (refine gate_guard (by rfl) ?_; dsimp only); refine build2 rfl _ _ rfl (hE t, none, 0) (fE m t D, A, c) rfl rfl (all2 ⟨RdU.nil _ _, Nat.le_refl _⟩ (HR.out.only HFd.out.only)) ?_; intro b3 x3 hr3 ho3; have HRe3 := Lib.hid hr3; have HFe := Lib.hid (HFd.out.step ho3); clear hr3 ho3)
          | (go_at_call 12
             first
               | (have q := rep_any (A := none) (l := []) (n := 0) (c := 0) (M := fun _ => (none, 0)) i rfl (by decide) (RdE.nil _ _ _) (fun E hE => absurd hE (by simp)) (HM.out.only HF1.out.only); (with_reducible refine q.mono ?_); clear q; rintro x u2 ⟨rfl, ho⟩; rw [HRn2.out]; have HFn := Lib.hid (HF1.out.step ho); clear ho)
               | (have q := rep_any (l := [dE m t, fE m t D, kE t]) (n := 3) (c := 3) i rfl (by decide) HRe2.out (all3 ok_d (ok_f HD.out) ok_k) (HM.out.only HFb.out.only); (with_reducible refine q.mono ?_); clear q; rintro x y2 ⟨rfl, ho⟩; rw [HRd2.out]; have HFd := Lib.hid (HFb.out.step ho); clear ho)
               | (have q := rep_any (l := [hE t, fE m t D]) (n := 2) (c := 2) i rfl (by decide) HRe3.out (all2 ok_h (ok_f HD.out)) (HM.out.only HFe.out.only); (with_reducible refine q.mono ?_); clear q; rintro x y3 ⟨rfl, ho⟩; rw [HRh.out]; have HFh := Lib.hid (HFe.out.step ho); clear ho)))
        rcases (show i = 4 ∨ i = 5 by have := of_decide_eq_false hbm; omega) with rfl | rfl
        · have HW := Lib.hid (show repL [fE m t D, hE t] 4 = 1 from HRw.out)
          clear HRw HRn2 HRd2 HRh HF1 HFn HFd HFb HFe HRe2 HRe3 tn td hbm hi hj ci d5
          clear y1 y2 u2 x2 x3
          go_upto_region 16 with (fail)
          have HFk := Lib.hid (HFh.out.step ((Only.refl (fun _ => False) y3).alloc (.cells #[.int .i64 0, .int .i64 1, .int .i64 (-1), .int .i64 (-1), .int .i64 1, .int .i64 1] 3)))
          go_wp2_with (first
            | ((with_reducible refine gate 70 rfl ?_); refine load_ent rfl _ rfl rfl HFk.out.b7 ?_)
            | ((with_reducible refine gate 71 rfl ?_); refine load_ent rfl _ rfl rfl HFk.out.b9 ?_)
            | ((with_reducible refine gate 72 rfl ?_); refine build2 rfl _ _ rfl (fE m t D, A, c) (hE t, none, 0) rfl rfl (all2 (HR.out.only HFk.out.only) ⟨RdU.nil _ _, Nat.le_refl _⟩) ?_; intro b4 x4 hr4 ho4; have HRe4 := Lib.hid hr4; have HFi := Lib.hid (HFk.out.step ho4); clear hr4 ho4)
            | (go_at_call 12; have q := rep_any (l := [fE m t D, hE t]) (n := 2) (c := 2) 4 rfl (by decide) HRe4.out (all2 (ok_f HD.out) ok_h) (HM.out.only HFi.out.only); (with_reducible refine q.mono ?_); clear q; rintro x y4 ⟨rfl, ho⟩; rw [HW.out]; have HFj := Lib.hid (HFi.out.step ho); clear ho))
          exact ⟨⟨5, rfl, by decide, by decide, HFj⟩, by decide⟩
        · have HW := Lib.hid (show repL [fE m t D, hE t] 5 = 1 from HRw.out)
          clear HRw HRn2 HRd2 HRh HF1 HFn HFd HFb HFe HRe2 HRe3 tn td hbm hi hj ci d5
          clear y1 y2 u2 x2 x3
          go_upto_region 16 with (fail)
          have HFk := Lib.hid (HFh.out.step ((Only.refl (fun _ => False) y3).alloc (.cells #[.int .i64 0, .int .i64 1, .int .i64 (-1), .int .i64 (-1), .int .i64 1, .int .i64 1] 3)))
          go_wp2_with (first
            | ((with_reducible refine gate 70 rfl ?_); refine load_ent rfl _ rfl rfl HFk.out.b7 ?_)
            | ((with_reducible refine gate 71 rfl ?_); refine load_ent rfl _ rfl rfl HFk.out.b9 ?_)
            | ((with_reducible refine gate 72 rfl ?_); refine build2 rfl _ _ rfl (fE m t D, A, c) (hE t, none, 0) rfl rfl (all2 (HR.out.only HFk.out.only) ⟨RdU.nil _ _, Nat.le_refl _⟩) ?_; intro b4 x4 hr4 ho4; have HRe4 := Lib.hid hr4; have HFi := Lib.hid (HFk.out.step ho4); clear hr4 ho4)
            | (go_at_call 12; have q := rep_any (l := [fE m t D, hE t]) (n := 2) (c := 2) 5 rfl (by decide) HRe4.out (all2 (ok_f HD.out) ok_h) (HM.out.only HFi.out.only); (with_reducible refine q.mono ?_); clear q; rintro x y4 ⟨rfl, ho⟩; rw [HW.out]; have HFj := Lib.hid (HFi.out.step ho); clear ho))
          exact ⟨⟨6, rfl, by decide, by decide, HFj⟩, by decide⟩
      · go_upto_region 15 with (first
          | ((with_reducible refine gate 48 rfl ?_); (refine gate_guard (by rfl) ?_; dsimp only); refine load_ent rfl _ rfl rfl HFn.out.b8 ?_)
          | ((with_reducible refine gate 49 rfl ?_); (refine gate_guard (by rfl) ?_; dsimp only); refine load_ent rfl _ rfl rfl HFn.out.b7 ?_)
          | ((with_reducible refine gate 50 rfl ?_); (refine gate_guard (by rfl) ?_; dsimp only); refine load_ent rfl _ rfl rfl HFn.out.b10 ?_)
          | ((with_reducible refine gate 51 rfl ?_); (refine gate_guard (by rfl) ?_; dsimp only); refine build3 rfl _ _ _ rfl (dE m t, none, 0) (fE m t D, A, c) (kE t, none, 0) rfl rfl rfl (all3 ⟨RdU.nil _ _, Nat.le_refl _⟩ (HR.out.only HFn.out.only) ⟨RdU.nil _ _, Nat.le_refl _⟩) ?_; intro b2 x2 hr2 ho2; have HRe2 := Lib.hid hr2; have HFb := Lib.hid (HFn.out.step ho2); clear hr2 ho2)
          | ((with_reducible refine gate 59 rfl ?_); (refine gate_guard (by rfl) ?_; dsimp only); refine load_ent rfl _ rfl rfl HFd.out.b9 ?_)
          | ((with_reducible refine gate 60 rfl ?_); (refine gate_guard (by rfl) ?_; dsimp only); refine load_ent rfl _ rfl rfl HFd.out.b7 ?_)
          | ((with_reducible refine gate 61 rfl ?_); (refine gate_guard (by rfl) ?_; dsimp only); refine build2 rfl _ _ rfl (hE t, none, 0) (fE m t D, A, c) rfl rfl (all2 ⟨RdU.nil _ _, Nat.le_refl _⟩ (HR.out.only HFd.out.only)) ?_; intro b3 x3 hr3 ho3; have HRe3 := Lib.hid hr3; have HFe := Lib.hid (HFd.out.step ho3); clear hr3 ho3)
          | (go_at_call 12
             first
               | (have q := rep_any (A := none) (l := []) (n := 0) (c := 0) (M := fun _ => (none, 0)) i rfl (by decide) (RdE.nil _ _ _) (fun E hE => absurd hE (by simp)) (HM.out.only HF1.out.only); (with_reducible refine q.mono ?_); clear q; rintro x u2 ⟨rfl, ho⟩; rw [HRn2.out]; have HFn := Lib.hid (HF1.out.step ho); clear ho)
               | (have q := rep_any (l := [dE m t, fE m t D, kE t]) (n := 3) (c := 3) i rfl (by decide) HRe2.out (all3 ok_d (ok_f HD.out) ok_k) (HM.out.only HFb.out.only); (with_reducible refine q.mono ?_); clear q; rintro x y2 ⟨rfl, ho⟩; rw [HRd2.out]; have HFd := Lib.hid (HFb.out.step ho); clear ho)
               | (have q := rep_any (l := [hE t, fE m t D]) (n := 2) (c := 2) i rfl (by decide) HRe3.out (all2 ok_h (ok_f HD.out)) (HM.out.only HFe.out.only); (with_reducible refine q.mono ?_); clear q; rintro x y3 ⟨rfl, ho⟩; rw [HRh.out]; have HFh := Lib.hid (HFe.out.step ho); clear ho)))
        rcases (show i = 1 ∨ i = 2 ∨ i = 3 by have := of_decide_eq_true hbm; omega) with rfl | rfl | rfl
        · have HW := Lib.hid (show repL [fE m t D, hE t] 1 = 1 from HRw.out)
          clear HRw HRn2 HRd2 HRh HF1 HFn HFd HFb HFe HRe2 HRe3 tn td hbm hi hj ci d5
          clear y1 y2 u2 x2 x3
          go_upto_region 16 with (fail)
          have HFk := Lib.hid (HFh.out.step ((Only.refl (fun _ => False) y3).alloc (.cells #[.int .i64 0, .int .i64 1, .int .i64 (-1), .int .i64 (-1), .int .i64 1, .int .i64 1] 3)))
          go_wp2_with (first
            | ((with_reducible refine gate 70 rfl ?_); refine load_ent rfl _ rfl rfl HFk.out.b7 ?_)
            | ((with_reducible refine gate 71 rfl ?_); refine load_ent rfl _ rfl rfl HFk.out.b9 ?_)
            | ((with_reducible refine gate 72 rfl ?_); refine build2 rfl _ _ rfl (fE m t D, A, c) (hE t, none, 0) rfl rfl (all2 (HR.out.only HFk.out.only) ⟨RdU.nil _ _, Nat.le_refl _⟩) ?_; intro b4 x4 hr4 ho4; have HRe4 := Lib.hid hr4; have HFi := Lib.hid (HFk.out.step ho4); clear hr4 ho4)
            | (go_at_call 12; have q := rep_any (l := [fE m t D, hE t]) (n := 2) (c := 2) 1 rfl (by decide) HRe4.out (all2 (ok_f HD.out) ok_h) (HM.out.only HFi.out.only); (with_reducible refine q.mono ?_); clear q; rintro x y4 ⟨rfl, ho⟩; rw [HW.out]; have HFj := Lib.hid (HFi.out.step ho); clear ho))
          exact ⟨⟨2, rfl, by decide, by decide, HFj⟩, by decide⟩
        · have HW := Lib.hid (show repL [fE m t D, hE t] 2 = -1 from HRw.out)
          clear HRw HRn2 HRd2 HRh HF1 HFn HFd HFb HFe HRe2 HRe3 tn td hbm hi hj ci d5
          clear y1 y2 u2 x2 x3
          go_upto_region 16 with (fail)
          have HFk := Lib.hid (HFh.out.step ((Only.refl (fun _ => False) y3).alloc (.cells #[.int .i64 0, .int .i64 1, .int .i64 (-1), .int .i64 (-1), .int .i64 1, .int .i64 1] 3)))
          go_wp2_with (first
            | ((with_reducible refine gate 70 rfl ?_); refine load_ent rfl _ rfl rfl HFk.out.b7 ?_)
            | ((with_reducible refine gate 71 rfl ?_); refine load_ent rfl _ rfl rfl HFk.out.b9 ?_)
            | ((with_reducible refine gate 72 rfl ?_); refine build2 rfl _ _ rfl (fE m t D, A, c) (hE t, none, 0) rfl rfl (all2 (HR.out.only HFk.out.only) ⟨RdU.nil _ _, Nat.le_refl _⟩) ?_; intro b4 x4 hr4 ho4; have HRe4 := Lib.hid hr4; have HFi := Lib.hid (HFk.out.step ho4); clear hr4 ho4)
            | (go_at_call 12; have q := rep_any (l := [fE m t D, hE t]) (n := 2) (c := 2) 2 rfl (by decide) HRe4.out (all2 (ok_f HD.out) ok_h) (HM.out.only HFi.out.only); (with_reducible refine q.mono ?_); clear q; rintro x y4 ⟨rfl, ho⟩; rw [HW.out]; have HFj := Lib.hid (HFi.out.step ho); clear ho))
          exact ⟨⟨3, rfl, by decide, by decide, HFj⟩, by decide⟩
        · have HW := Lib.hid (show repL [fE m t D, hE t] 3 = -1 from HRw.out)
          clear HRw HRn2 HRd2 HRh HF1 HFn HFd HFb HFe HRe2 HRe3 tn td hbm hi hj ci d5
          clear y1 y2 u2 x2 x3
          go_upto_region 16 with (fail)
          have HFk := Lib.hid (HFh.out.step ((Only.refl (fun _ => False) y3).alloc (.cells #[.int .i64 0, .int .i64 1, .int .i64 (-1), .int .i64 (-1), .int .i64 1, .int .i64 1] 3)))
          go_wp2_with (first
            | ((with_reducible refine gate 70 rfl ?_); refine load_ent rfl _ rfl rfl HFk.out.b7 ?_)
            | ((with_reducible refine gate 71 rfl ?_); refine load_ent rfl _ rfl rfl HFk.out.b9 ?_)
            | ((with_reducible refine gate 72 rfl ?_); refine build2 rfl _ _ rfl (fE m t D, A, c) (hE t, none, 0) rfl rfl (all2 (HR.out.only HFk.out.only) ⟨RdU.nil _ _, Nat.le_refl _⟩) ?_; intro b4 x4 hr4 ho4; have HRe4 := Lib.hid hr4; have HFi := Lib.hid (HFk.out.step ho4); clear hr4 ho4)
            | (go_at_call 12; have q := rep_any (l := [fE m t D, hE t]) (n := 2) (c := 2) 3 rfl (by decide) HRe4.out (all2 (ok_f HD.out) ok_h) (HM.out.only HFi.out.only); (with_reducible refine q.mono ?_); clear q; rintro x y4 ⟨rfl, ho⟩; rw [HW.out]; have HFj := Lib.hid (HFi.out.step ho); clear ho))
          exact ⟨⟨4, rfl, by decide, by decide, HFj⟩, by decide⟩
    · have d5 : decide (i ≤ 5) = false := decide_eq_false ci
      have r3 := rep_dt3 (t := t) HM0.out HM1.out HD.out
      have r2 := rep_dt2 (t := t) HM0.out HM1.out HD.out
      have R3 := Lib.hid r3
      have R2 := Lib.hid r2
      have c0 : wr.cell? ⟨g7, 0, none⟩ = some (.string ⟨#[102]⟩) := Joins.cell_of_block HF.out.b7 0
      have f0 := frozen_of_row wr g7 0 _ _ HF.out.b7
      have HV := Lib.hid (show Four w g7 g8 g9 g10 m t (tE m t D) A c (wr.setCell ⟨g7, 0, none⟩ (.string (B trailer))) from
        ⟨heap_setCell_same wr g7 0 _ _ _ HF.out.b7, by rw [heap_setCell_other wr ⟨g7, 0, none⟩ g8 _ N8.out]; exact HF.out.b8, by rw [heap_setCell_other wr ⟨g7, 0, none⟩ g9 _ N9.out]; exact HF.out.b9, by rw [heap_setCell_other wr ⟨g7, 0, none⟩ g10 _ N10.out]; exact HF.out.b10,
          HF.out.only.trans (only_put wr g7 0 _) (fun k hk => Or.inr (by rw [hk]; exact HG7.out))⟩)
      clear r3 r2 ci hi hj HF
      go_upto_region 19 with (fail)
      change Code.wp Tryd.prog _ _ _ (wr.setCell ⟨g7, 0, none⟩ (.string (B trailer)))
      obtain ⟨V, hV⟩ : ∃ V, wr.setCell ⟨g7, 0, none⟩ (.string (B trailer)) = V := ⟨_, rfl⟩
      rw [hV] at HV ⊢
      clear hV c0 f0
      clear wr
      go_wp2_with (first
        | (go_at_call 9; (with_reducible refine (told_any _ (HM.out.only HV.out.only)).mono ?_); rintro x z1 ⟨rfl, ho⟩; have HZ := Lib.hid (HV.out.step ho); clear ho)
        | ((with_reducible refine gate 80 rfl ?_); (refine gate_guard (by rfl) ?_; dsimp only); refine load_ent rfl _ rfl rfl HZ.out.b8 ?_)
        | ((with_reducible refine gate 81 rfl ?_); (refine gate_guard (by rfl) ?_; dsimp only); refine load_ent rfl _ rfl rfl HZ.out.b7 ?_)
        | ((with_reducible refine gate 82 rfl ?_); (refine gate_guard (by rfl) ?_; dsimp only); refine build2 rfl _ _ rfl (dE m t, none, 0) (tE m t D, A, c) rfl rfl (all2 ⟨RdU.nil _ _, Nat.le_refl _⟩ (HR.out.only HZ.out.only)) ?_; intro b5 x5 hr5 ho5; have HRe5 := Lib.hid hr5; have HY := Lib.hid (HZ.out.step ho5); clear hr5 ho5)
        | ((with_reducible refine gate 87 rfl ?_); (refine gate_guard (by rfl) ?_; dsimp only); refine load_ent rfl _ rfl rfl HX.out.b8 ?_)
        | ((with_reducible refine gate 88 rfl ?_); (refine gate_guard (by rfl) ?_; dsimp only); refine load_ent rfl _ rfl rfl HX.out.b7 ?_)
        | ((with_reducible refine gate 89 rfl ?_); (refine gate_guard (by rfl) ?_; dsimp only); refine build2 rfl _ _ rfl (dE m t, none, 0) (tE m t D, A, c) rfl rfl (all2 ⟨RdU.nil _ _, Nat.le_refl _⟩ (HR.out.only HX.out.only)) ?_; intro b6 x6 hr6 ho6; have HRe6 := Lib.hid hr6; have HW := Lib.hid (HX.out.step ho6); clear hr6 ho6)
        | (go_at_call 12
           first
             | (have q := rep_any (l := [dE m t, tE m t D]) (n := 2) (c := 2) 2 rfl (by decide) HRe6.out (all2 ok_d (ok_t HD.out)) (HM.out.only HW.out.only); (with_reducible refine q.mono ?_); clear q; rintro x z3 ⟨rfl, ho⟩; rw [R2.out]; have HEnd := Lib.hid (HW.out.step ho); clear ho)
             | (have q := rep_any (l := [dE m t, tE m t D]) (n := 2) (c := 2) 3 rfl (by decide) HRe5.out (all2 ok_d (ok_t HD.out)) (HM.out.only HY.out.only); (with_reducible refine q.mono ?_); clear q; rintro x z2 ⟨rfl, ho⟩; rw [R3.out]; have HX := Lib.hid (HY.out.step ho); clear ho)))
      go_ret
      exact ⟨rfl, HEnd.out.only⟩
theorem lawHolds {H : Type} {enc : TypeId × Value → H} {W : World} {base : Nat} {v0 v1 v2 : Value} {d0 d1 d2 : DataW H} {p0 p1 p2 : List MemPlace} {ts : List TypeId} {ds : List (DataW H)} (hm : MaxLen W)
    (ov0 : Value.okWide Tryd.prog W .any base 23 v0) (k0 : DataW.Trod enc Tryd.prog W 0 (fun _ => true) true 23 v0 d0 p0)
    (ov1 : Value.okWide Tryd.prog W .any base 3 v1) (k1 : DataW.Trod enc Tryd.prog W 0 (fun _ => true) true 3 v1 d1 p1)
    (ov2 : Value.okWide Tryd.prog W .any base 22 v2) (k2 : DataW.Trod enc Tryd.prog W 0 (fun _ => true) true 22 v2 d2 p2)
    (_ : (DataW.weightsEach Tryd.prog ts ds).all (· ≤ reachBytes) = true) :
    Calls Tryd.prog 4 #[v0, v1, v2] W fun e w' => e = .returned (.bool true) ∧ Below W.heap.size W w' := by
  obtain ⟨n1, rfl, _, _, _⟩ := Go.ChangeShapes.open_int Tryd.underlying3 ov1 k1
  obtain ⟨A, c, C, rfl, l1, m1, hC, wC⟩ := open_nums Tryd.underlying23 Tryd.underlying5 (by kernel_rfl) ov0 k0
  obtain ⟨l, hl⟩ := bytes_str (m := C) (fun x hx => u8_b (wC x hx))
  have hlen : l.length = C.length := by rw [← ints_len, hl]
  have hR : RdU W A l := by unfold RdU; rw [hl]; exact hC
  obtain ⟨t, rfl, _, _, _⟩ := Go.ChangeShapes.open_float Tryd.underlying22 ov2 k2
  rw [← hlen]
  exact (holds_law W A c l n1 t (by omega) (by omega) hR hm).mono fun x w' h => ⟨h.1, h.2.none⟩
end Go.Proofs.YtdkfemmjoabbcaaDoor.Walks
