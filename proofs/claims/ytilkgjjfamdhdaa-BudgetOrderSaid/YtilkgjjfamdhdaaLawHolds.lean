/- The law 'what was let through is never above the limits' answers true, whatever the limits and the ops. -/
import Derived.Test.YtilkgjjfamdhdaaTold
import Derived.Test.YtilkgjjfamdhdaaOps
import Derived.Test.YtilkgjjfamdhdaaAid
import Derived.Deep.LoopGhost
import Derived.Deep.CutRange
import Derived.Deep.DeepCutAuto
namespace Go.Proofs.Ytilkgjjfamdhdaa.Walks
open Go Go.RowKit Go.Proofs.Ytilkgjjfamdhdaa.Aid

attribute [local go_sem] run_store_float
/-- What lies in memory beside the loop's numbers: the budget (block g) and, from w0 on, all else. -/
structure St (g : Nat) (e t n p : Int) (w0 wr : World) (en su ow : Int) : Prop where
  bud : wr.heap[g]? = some (bud e t n p 0 en su ow)
  only : Only (· = g) w0 wr
  en0 : 0 ≤ en
  en1 : en ≤ n
  to0 : 0 ≤ su
  to1 : su ≤ t
  ow0 : 0 ≤ ow
  ow1 : ow ≤ e
  none : en = 0 → su = 0
theorem St.keep {g : Nat} {e t n p : Int} {w0 wr w2 : World} {en su ow en' su' ow' : Int} (h : St g e t n p w0 wr en su ow) (hb : Hid (w2.heap[g]? = some (Walks.bud e t n p 0 en' su' ow'))) (ho : Only (· = g) wr w2)
    (a0 : 0 ≤ en') (a1 : en' ≤ n) (b0 : 0 ≤ su') (b1 : su' ≤ t) (c0 : 0 ≤ ow') (c1 : ow' ≤ e) (d : en' = 0 → su' = 0) : Hid (St g e t n p w0 w2 en' su' ow') :=
  Lib.hid ⟨hb.out, h.only.trans' ho, a0, a1, b0, b1, c0, c1, d⟩
theorem beginC_no {p n en k : Int} (h : p < k ∨ en ≥ n) : beginC p n en k = 3 := by unfold beginC; rw [if_pos h]
theorem beginC_ok {p n en k : Int} (h : ¬ (p < k ∨ en ≥ n)) : beginC p n en k = 0 := by unfold beginC; rw [if_neg h]
theorem dataC_no {e t en su ow k : Int} (h0 : 0 ≤ k) (h : k > roomC e t en su ow) : dataC e t en su ow k = 3 := by unfold dataC; rw [if_neg (by omega), if_pos h]
theorem dataC_ok {e t en su ow k : Int} (h0 : 0 ≤ k) (h : ¬ k > roomC e t en su ow) : dataC e t en su ow k = 0 := by unfold dataC; rw [if_neg (by omega), if_neg h]
theorem roomC_zero {e t en su ow : Int} (h : en = 0) : roomC e t en su ow = 0 := by unfold roomC; rw [if_pos h]
theorem roomC_pos {e t en su ow : Int} (h : en ≠ 0) : roomC e t en su ow = if e - ow < t - su then e - ow else t - su := by unfold roomC; rw [if_neg h]
set_option maxRecDepth 100000 in
set_option maxHeartbeats 1000000 in
theorem lawHolds_any (e t n p : Int) (r : Nat) (A : Option Addr) (len cap : Nat) (K N : Nat → Int) (R : Nat → Bool) (w : World) (ho : OpsAt w A len K N R) :
    Calls Try.prog 6 #[.agg #[.int .i64 e, .int .i64 t, .int .i64 n, .int .i64 p, .float .f64 r], .slice A len cap] w fun x w' => x = .returned (.bool true) ∧ Below w.heap.size w w' := by
  have hlen := ho.1
  have HO := Lib.hid ho
  clear ho
  obtain ⟨E, hE⟩ : ∃ E, E = e % 128 := ⟨_, rfl⟩
  obtain ⟨T, hT⟩ : ∃ E, E = t % 128 := ⟨_, rfl⟩
  obtain ⟨M, hM⟩ : ∃ E, E = n % 128 := ⟨_, rfl⟩
  obtain ⟨P, hP⟩ : ∃ E, E = p % 128 := ⟨_, rfl⟩
  have ae := and127_i64 e
  have at_ := and127_i64 t
  have an := and127_i64 n
  have ap := and127_i64 p
  rw [← hE] at ae
  rw [← hT] at at_
  rw [← hM] at an
  rw [← hP] at ap
  have bE : 0 ≤ E ∧ E ≤ 127 := by omega
  have bT : 0 ≤ T ∧ T ≤ 127 := by omega
  have bM : 0 ≤ M ∧ M ≤ 127 := by omega
  have bP : 0 ≤ P ∧ P ≤ 127 := by omega
  clear hE hT hM hP
  go_enter Try.func6, Try.ntmps6
  go_wp2_with fail
  go_at_call 12
  have hm : mayB E T M P = true := by unfold mayB withinB; simp; omega
  refine (new_at E T M P 0 _ hm).mono ?_
  rintro x w1 ⟨g, rfl, hg, HB, hbl⟩
  clear hm ae at_ an ap
  obtain ⟨hc, hf⟩ := bcell hbl
  have hg' : w.heap.size < g := by have := hg; simp at this; omega
  have k0 : w1.cell? ⟨w.heap.size, 0, none⟩ = some (.int .i64 E) := by rw [hc _ _ (by simp)]; simp
  have k1 : w1.cell? ⟨w.heap.size, 1, none⟩ = some (.int .i64 T) := by rw [hc _ _ (by simp)]; simp
  have k2 : w1.cell? ⟨w.heap.size, 2, none⟩ = some (.int .i64 M) := by rw [hc _ _ (by simp)]; simp
  have k3 : w1.cell? ⟨w.heap.size, 3, none⟩ = some (.int .i64 P) := by rw [hc _ _ (by simp)]; simp
  clear hc hf
  have HB0 := Lib.hid (((Below.refl w.heap.size w).alloc (Nat.le_refl _) _).trans (hbl.mono (by simp)))
  go_wp2_with fail
  go_loopw [7, 8, 9, 10] (fun a b c i wr => ∃ (k : Nat) (en su ow : Int), a = .int .i64 en ∧ b = .int .i64 su ∧ c = .int .i64 ow ∧ i = .int .i64 (k : Int) ∧ k ≤ 60 ∧ Hid (St g E T M P w1 wr en su ow)) (fun _ _ _ i _ => 60 - (intOf i).toNat)
  case atStart => exact ⟨0, 0, 0, 0, rfl, rfl, rfl, rfl, by omega, Lib.hid ⟨HB.out, Only.refl _ _, by omega, by omega, by omega, by omega, by omega, by omega, fun _ => rfl⟩⟩
  case round =>
    obtain ⟨k, en, su, ow, rfl, rfl, rfl, rfl, hk, HS⟩ := hrel
    have k0' := k0
    have k1' := k1
    have k2' := k2
    have q0 := HS.out.only.cell k0 (by simp; omega)
    have q1 := HS.out.only.cell k1 (by simp; omega)
    have q2 := HS.out.only.cell k2 (by simp; omega)
    have q3 := HS.out.only.cell k3 (by simp; omega)
    by_cases c1 : k < len
    · by_cases c2 : k < 60
      · obtain ⟨ad, rfl, o0, o1, o2, b0, b1⟩ := HO.out.2 k c1
        have l0 := World.block_lt_of_cell? w _ o0
        have l1 := World.block_lt_of_cell? w _ o1
        have hon : Only (· = g) w wr := (Only.of_below HB0.out _).trans' HS.out.only
        replace o0 := hon.cell o0 (fun e => by omega)
        replace o1 := hon.cell o1 (fun e => by omega)
        rw [add_field _ _ 1 (by decide)] at o1
        clear o2 l0 l1 hon
        have ak := and63_i64 (N k)
        obtain ⟨q, hq⟩ : ∃ q, q = N k % 64 := ⟨_, rfl⟩
        have bq : 0 ≤ q ∧ q ≤ 63 := by omega
        rw [← hq] at ak
        clear hq
        clear HO k0 k1 k2 k3 hbl
        go_upto_if 61 with (fail)
        go_cut [7, 8, 9] from 37 to 145 (fun a b c wx => ∃ (en' su' ow' : Int), a = .int .i64 en' ∧ b = .int .i64 su' ∧ c = .int .i64 ow' ∧ Hid (St g E T M P w1 wx en' su' ow'))
        case first =>
          have S := Lib.hid HS.out
          obtain ⟨_, _, z1, z2, z3, z4, z5, z6, z7⟩ := HS.out
          replace z7 := Lib.hid z7
          by_cases kz : ((wrap64 ((K k).tmod 3 + 3)).tmod 3 == 0) = true
          · by_cases d1 : P < q ∨ en ≥ M
            · by_cases d2 : q ≤ P
              · have d3 : decide (en < M) = false := by simp; omega
                have CT := Lib.hid (begin_at g E T M P 0 en su ow q 3 _ wr (Lib.hid S.out.bud) z1 (by omega) (beginC_no d1) rfl)
                clear HS
                go_wp2_with fail
                go_at_call 15
                refine CT.out.mono ?_
                rintro x w2 ⟨rfl, HB2, ho2⟩
                have r0 := ho2.cell q0 (fun e => by simp at e; omega)
                have r1 := ho2.cell q1 (fun e => by simp at e; omega)
                have r2 := ho2.cell q2 (fun e => by simp at e; omega)
                have r3 := ho2.cell q3 (fun e => by simp at e; omega)
                go_wp2_with fail
                go_meet
                exact ⟨_, _, _, rfl, rfl, rfl, S.out.keep HB2 ho2 z1 z2 z3 z4 z5 z6 z7.out⟩
              · have d3 : decide (q ≤ P) = false := by simp; omega
                have CT := Lib.hid (begin_at g E T M P 0 en su ow q 3 _ wr (Lib.hid S.out.bud) z1 (by omega) (beginC_no d1) rfl)
                clear HS
                go_wp2_with fail
                go_at_call 15
                refine CT.out.mono ?_
                rintro x w2 ⟨rfl, HB2, ho2⟩
                have r0 := ho2.cell q0 (fun e => by simp at e; omega)
                have r1 := ho2.cell q1 (fun e => by simp at e; omega)
                have r2 := ho2.cell q2 (fun e => by simp at e; omega)
                have r3 := ho2.cell q3 (fun e => by simp at e; omega)
                go_wp2_with fail
                go_meet
                exact ⟨_, _, _, rfl, rfl, rfl, S.out.keep HB2 ho2 z1 z2 z3 z4 z5 z6 z7.out⟩
            · have d2 : q ≤ P := by omega
              have d3 : en < M := by omega
              have CT := Lib.hid (begin_at g E T M P 0 en su ow q 0 _ wr (Lib.hid S.out.bud) z1 (by omega) (beginC_ok d1) rfl)
              clear HS
              go_wp2_with fail
              go_at_call 15
              refine CT.out.mono ?_
              rintro x w2 ⟨rfl, HB2, ho2⟩
              have r0 := ho2.cell q0 (fun e => by simp at e; omega)
              have r1 := ho2.cell q1 (fun e => by simp at e; omega)
              have r2 := ho2.cell q2 (fun e => by simp at e; omega)
              have r3 := ho2.cell q3 (fun e => by simp at e; omega)
              go_wp2_with fail
              go_meet
              exact ⟨_, _, _, rfl, rfl, rfl, S.out.keep HB2 ho2 (by omega) (by omega) z3 z4 (by omega) (by omega) (fun h => by omega)⟩
          · have kz' : ((wrap64 ((K k).tmod 3 + 3)).tmod 3 == 0) = false := by simpa using kz
            clear kz
            by_cases d1 : q > roomC E T en su ow
            · by_cases d2 : en = 0
              · have d3 : decide (en > 0) = false := by simp; omega
                clear d2
                have CT := Lib.hid (data_at g E T M P 0 en su ow q 3 _ wr (Lib.hid S.out.bud) (by omega) (by omega) (by omega) (by omega) (dataC_no (by omega) d1) rfl)
                clear HS
                go_wp2_with fail
                go_at_call 18
                refine CT.out.mono ?_
                rintro x w2 ⟨rfl, HB2, ho2⟩
                have r0 := ho2.cell q0 (fun e => by simp at e; omega)
                have r1 := ho2.cell q1 (fun e => by simp at e; omega)
                have r2 := ho2.cell q2 (fun e => by simp at e; omega)
                have r3 := ho2.cell q3 (fun e => by simp at e; omega)
                go_wp2_with fail
                go_meet
                exact ⟨_, _, _, rfl, rfl, rfl, S.out.keep HB2 ho2 z1 z2 z3 z4 z5 z6 z7.out⟩
              · have d3 : 0 < en := by omega
                have hr := roomC_pos (e := E) (t := T) (su := su) (ow := ow) d2
                have d4 : ¬ (ow + q ≤ E ∧ su + q ≤ T) := by rw [hr] at d1; split at d1 <;> omega
                clear hr
                by_cases d5 : ow + q ≤ E
                · have d6 : decide (su + q ≤ T) = false := by simp; omega
                  clear d4 d2
                  have CT := Lib.hid (data_at g E T M P 0 en su ow q 3 _ wr (Lib.hid S.out.bud) (by omega) (by omega) (by omega) (by omega) (dataC_no (by omega) d1) rfl)
                  clear HS
                  go_wp2_with fail
                  go_at_call 18
                  refine CT.out.mono ?_
                  rintro x w2 ⟨rfl, HB2, ho2⟩
                  have r0 := ho2.cell q0 (fun e => by simp at e; omega)
                  have r1 := ho2.cell q1 (fun e => by simp at e; omega)
                  have r2 := ho2.cell q2 (fun e => by simp at e; omega)
                  have r3 := ho2.cell q3 (fun e => by simp at e; omega)
                  go_wp2_with fail
                  go_meet
                  exact ⟨_, _, _, rfl, rfl, rfl, S.out.keep HB2 ho2 z1 z2 z3 z4 z5 z6 z7.out⟩
                · have d6 : decide (ow + q ≤ E) = false := by simp; omega
                  clear d4 d2 d5
                  have CT := Lib.hid (data_at g E T M P 0 en su ow q 3 _ wr (Lib.hid S.out.bud) (by omega) (by omega) (by omega) (by omega) (dataC_no (by omega) d1) rfl)
                  clear HS
                  go_wp2_with fail
                  go_at_call 18
                  refine CT.out.mono ?_
                  rintro x w2 ⟨rfl, HB2, ho2⟩
                  have r0 := ho2.cell q0 (fun e => by simp at e; omega)
                  have r1 := ho2.cell q1 (fun e => by simp at e; omega)
                  have r2 := ho2.cell q2 (fun e => by simp at e; omega)
                  have r3 := ho2.cell q3 (fun e => by simp at e; omega)
                  go_wp2_with fail
                  go_meet
                  exact ⟨_, _, _, rfl, rfl, rfl, S.out.keep HB2 ho2 z1 z2 z3 z4 z5 z6 z7.out⟩
            · have d2 : ow + q ≤ E ∧ su + q ≤ T ∧ (en = 0 → su + q = 0) := by
                by_cases d2 : en = 0
                · have hr := roomC_zero (e := E) (t := T) (su := su) (ow := ow) d2
                  have := z7.out d2
                  rw [hr] at d1
                  exact ⟨by omega, by omega, fun _ => by omega⟩
                · have hr := roomC_pos (e := E) (t := T) (su := su) (ow := ow) d2
                  rw [hr] at d1
                  split at d1
                  · exact ⟨by omega, by omega, fun h => absurd h d2⟩
                  · exact ⟨by omega, by omega, fun h => absurd h d2⟩
              obtain ⟨d3, d4, d5⟩ := d2
              replace d5 := Lib.hid d5
              have CT := Lib.hid (data_at g E T M P 0 en su ow q 0 _ wr (Lib.hid S.out.bud) (by omega) (by omega) (by omega) (by omega) (dataC_ok (by omega) d1) rfl)
              clear HS
              go_wp2_with fail
              go_at_call 18
              refine CT.out.mono ?_
              rintro x w2 ⟨rfl, HB2, ho2⟩
              have r0 := ho2.cell q0 (fun e => by simp at e; omega)
              have r1 := ho2.cell q1 (fun e => by simp at e; omega)
              have r2 := ho2.cell q2 (fun e => by simp at e; omega)
              have r3 := ho2.cell q3 (fun e => by simp at e; omega)
              go_wp2_with fail
              go_meet
              exact ⟨_, _, _, rfl, rfl, rfl, S.out.keep HB2 ho2 z1 z2 (by omega) d4 (by omega) d3 d5.out⟩
        case rest =>
          obtain ⟨en', su', ow', rfl, rfl, rfl, HS'⟩ := hcut
          obtain ⟨hb', hon', z1, z2, z3, z4, z5, z6, z7⟩ := HS'.out
          have q0' := hon'.cell k0' (fun e => by simp at e; omega)
          have q1' := hon'.cell k1' (fun e => by simp at e; omega)
          have q2' := hon'.cell k2' (fun e => by simp at e; omega)
          have ct := Lib.hid (total_any g E T M P 0 en' su' ow' wc hb')
          have ce := Lib.hid (entries_any g E T M P 0 en' su' ow' wc hb')
          clear hb' hon' q0 q1 q2 q3 o0 o1
          by_cases d : en' = 0
          · have d1 : (en' == 0) = true := by simpa using d
            have d2 : decide (su' > 0) = false := by have := z7 d; simp; omega
            replace z7 := Lib.hid z7
            clear d
            go_wp2_with (first | (go_at_call 22; refine ct.out.mono ?_; rintro e w' ⟨rfl, rfl⟩) | (go_at_call 21; refine ce.out.mono ?_; rintro e w' ⟨rfl, rfl⟩))
            go_roundw
            case rel => exact ⟨k + 1, en', su', ow', rfl, rfl, rfl, by go_num, by omega, HS'⟩
            case measure => simp [intOf]; omega
          · have d1 : (en' == 0) = false := by simpa using d
            replace z7 := Lib.hid z7
            clear d
            go_wp2_with (first | (go_at_call 22; refine ct.out.mono ?_; rintro e w' ⟨rfl, rfl⟩) | (go_at_call 21; refine ce.out.mono ?_; rintro e w' ⟨rfl, rfl⟩))
            go_roundw
            case rel => exact ⟨k + 1, en', su', ow', rfl, rfl, rfl, by go_num, by omega, HS'⟩
            case measure => simp [intOf]; omega
      · have c2' : decide ((k : Int) < 60) = false := by simp; omega
        clear c2 HO k0 k1 k2 k3 k0' k1' k2' q0 q1 q2 q3
        go_wp2_with fail
        go_at_call 8
        refine (told_any _).mono ?_
        rintro x w2 ⟨rfl, hb2⟩
        go_wp2_with fail
        go_ret
        exact ⟨rfl, ((((Only.of_below HB0.out (fun k => w.heap.size ≤ k)).trans HS.out.only (fun k hk => .inl (by omega))).trans (Only.of_below hb2 (fun _ => False)) (fun _ hk => hk.elim)).below (Nat.le_refl _) (fun _ hk => hk))⟩
    · clear HO k0 k1 k2 k3 k0' k1' k2' q0 q1 q2 q3
      have c1' : len ≤ k := by omega
      clear c1
      go_wp2_with fail
      go_at_call 8
      refine (told_any _).mono ?_
      rintro x w2 ⟨rfl, hb2⟩
      go_wp2_with fail
      go_ret
      exact ⟨rfl, ((((Only.of_below HB0.out (fun k => w.heap.size ≤ k)).trans HS.out.only (fun k hk => .inl (by omega))).trans (Only.of_below hb2 (fun _ => False)) (fun _ hk => hk.elim)).below (Nat.le_refl _) (fun _ hk => hk))⟩
theorem lawHolds {H : Type} {enc : TypeId × Value → H} {W : World} {base : Nat} {v0 v1 : Value} {d0 d1 : DataW H} {p0 p1 : List MemPlace} {ts : List TypeId} {ds : List (DataW H)}
    (ov0 : Value.okWide Try.prog W .any base 28 v0) (k0 : DataW.Trod enc Try.prog W 0 (fun _ => true) true 28 v0 d0 p0)
    (ov1 : Value.okWide Try.prog W .any base 29 v1) (k1 : DataW.Trod enc Try.prog W 0 (fun _ => true) true 29 v1 d1 p1)
    (_ : (DataW.weightsEach Try.prog ts ds).all (· ≤ reachBytes) = true) :
    Calls Try.prog 6 #[v0, v1] W fun e w' => e = .returned (.bool true) ∧ Below W.heap.size W w' := by
  obtain ⟨e, t, n, p, r, rfl, _⟩ := open_lim ov0 k0
  obtain ⟨A, len, cap, K, N, R, rfl, ho⟩ := open_ops ov1 k1
  exact lawHolds_any e t n p r A len cap K N R W ho
end Go.Proofs.Ytilkgjjfamdhdaa.Walks
