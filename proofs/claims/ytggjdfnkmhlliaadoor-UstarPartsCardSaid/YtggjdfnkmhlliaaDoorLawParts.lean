/- UstarParts: the law's function says yes of every path. -/
import Derived.Test.YtggjdfnkmhlliaaDoorTold
import Derived.OpenShut
import Derived.ChangeOld
import Derived.SizedLaws
namespace Go.Proofs.YtggjdfnkmhlliaaDoor.Walks
open Go Go.RowKit Go.Proofs.YtggjdfnkmhlliaaDoor.Aid Go.Proofs.YtggjdfnkmhlliaaDoor.Own Go.Proofs.YtggjdfnkmhlliaaDoorW.PrintWords

def canTo (l : Str) (i : Nat) : Bool := decide (l.length ≤ 100) || (List.range i).any (fun j => decide (1 ≤ j) && okAt l j)
theorem canTo_one (l : Str) : canTo l 1 = decide (l.length ≤ 100) := by unfold canTo; simp
theorem canTo_succ {l : Str} {i : Nat} (h : 1 ≤ i) : canTo l (i + 1) = (canTo l i || okAt l i) := by
  unfold canTo
  rw [List.range_succ, List.any_append, List.any_cons, List.any_nil, decide_eq_true h, Bool.true_and, Bool.or_false, Bool.or_assoc]
theorem canTo_of {l : Str} {i j : Nat} (h1 : 1 ≤ j) (hj : j < i) (hk : okAt l j = true) : canTo l i = true := by
  unfold canTo
  rw [Bool.or_eq_true]
  exact Or.inr (List.any_eq_true.2 ⟨j, List.mem_range.2 hj, by rw [decide_eq_true h1, hk]; rfl⟩)
theorem findP_some {l : Str} {i : Nat} (h : findP l = some i) : i < l.length ∧ okAt l i = true := by
  have := List.find?_range_eq_some.1 h
  exact ⟨List.mem_range.1 this.2.1, this.1⟩
theorem part_no {l : Str} (h : (partL l).2.2 = false) : partL l = ([], [], false) ∧ firstL l = false := by
  unfold partL firstL at *
  by_cases c : l.length ≤ 100
  · rw [if_pos c] at h; exact Bool.noConfusion h
  · rw [if_neg c] at h ⊢
    cases hf : findP l with
    | none => exact ⟨rfl, rfl⟩
    | some i =>
      rw [hf] at h
      simp only [cutAt] at h ⊢
      by_cases c2 : 1 ≤ i ∧ i ≤ 155
      · rw [if_pos c2] at h; exact Bool.noConfusion h
      · rw [if_neg c2, decide_eq_false c2]; exact ⟨rfl, rfl⟩
theorem part_yes {l : Str} (h : (partL l).2.2 = true) : (partL l).1.length ≤ 155 ∧ (partL l).2.1.length ≤ 100 ∧ joinL { hdr0 with name := (partL l).2.1, pre := (partL l).1 } = l ∧ ∀ i, (l.length ≤ i ∨ 155 < i) → canTo l i = true := by
  unfold partL at *
  by_cases c : l.length ≤ 100
  · rw [if_pos c]
    refine ⟨Nat.zero_le _, c, by unfold joinL; rw [if_pos rfl], fun i _ => ?_⟩
    unfold canTo
    rw [decide_eq_true c, Bool.true_or]
  · rw [if_neg c] at h ⊢
    cases hf : findP l with
    | none => rw [hf] at h; exact Bool.noConfusion h
    | some i =>
      obtain ⟨hi, hk⟩ := findP_some hf
      rw [hf] at h
      simp only [cutAt] at h ⊢
      by_cases c2 : 1 ≤ i ∧ i ≤ 155
      · rw [if_pos c2]
        have hk2 := hk
        unfold okAt at hk2
        simp only [Bool.and_eq_true, decide_eq_true_eq] at hk2
        refine ⟨?_, ?_, ?_, fun k hk3 => canTo_of c2.1 (by omega) hk⟩
        · show (l.take i).length ≤ 155
          rw [List.length_take]; omega
        · show (l.drop (i + 1)).length ≤ 100
          rw [List.length_drop]; omega
        · unfold joinL
          show (if l.take i = [] then l.drop (i + 1) else l.take i ++ [47] ++ l.drop (i + 1)) = l
          rw [if_neg (fun e => by have := congrArg List.length e; rw [List.length_take, List.length_nil] at this; omega)]
          have e := drop_at (d := (0 : UInt8)) hi
          rw [hk2.1] at e
          rw [List.append_assoc, List.singleton_append, ← e, List.take_append_drop]
      · rw [if_neg c2] at h; exact Bool.noConfusion h
set_option maxHeartbeats 4000000 in
theorem parts_any (l : Str) (w : World) (hl : l.length ≤ 400) (hm : MaxLen w) : Calls Tryd.prog 7 #[.string (B l)] w (BoolPost true w) := by
  have HP := Lib.hid (part_any l w (by omega))
  have HF := Lib.hid (fun u => first_any l u (by omega))
  have HNo := Lib.hid (fun h => part_no (l := l) h)
  have HYes := Lib.hid (fun h => part_yes (l := l) h)
  obtain ⟨S, hS⟩ : ∃ S, B l = S := ⟨_, rfl⟩
  have HSS := Lib.hid (show S.size = l.length by rw [← hS, B_size])
  have HSd := Lib.hid (show S.data.toList = l by rw [← hS, B_data])
  have b1 : S.size ≤ 400 := by rw [HSS.out]; exact hl
  have b2 : decide ((S.size : Int) > 400) = false := decide_eq_false (by omega)
  have b3 : decide (400 < S.size) = false := decide_eq_false (by omega)
  have HM := Lib.hid hm
  have HSB := Lib.hid hS
  rw [hS] at HP HF ⊢
  obtain ⟨p, hp⟩ : ∃ p, (partL l).1 = p := ⟨_, rfl⟩
  obtain ⟨q, hq⟩ : ∃ q, (partL l).2.1 = q := ⟨_, rfl⟩
  obtain ⟨is, his⟩ : ∃ is, (partL l).2.2 = is := ⟨_, rfl⟩
  have HPE := Lib.hid (show partL l = (p, q, is) by rw [← hp, ← hq, ← his])
  replace HP := Lib.hid (show Calls Tryd.prog 17 #[.string S] w fun x w' => x = .returned (.tuple #[.string (B p), .string (B q), .bool is]) ∧ Only (fun _ => False) w w' from HP.out.mono (by rintro x w' ⟨rfl, ho⟩; rw [hp, hq, his]; exact ⟨rfl, ho⟩))
  obtain ⟨c0, hc0⟩ : ∃ c0 : Bool, decide (l.length ≤ 100) = c0 := ⟨_, rfl⟩
  have d0 : decide ((S.size : Int) ≤ 100) = c0 := by rw [← hc0]; exact decide_eq_decide.2 (by have := HSS.out; omega)
  have d0' : decide (S.size ≤ 100) = c0 := by rw [← hc0]; exact decide_eq_decide.2 (by have := HSS.out; omega)
  have HC0 := Lib.hid (show canTo l 1 = c0 from (canTo_one l).trans hc0)
  clear hS hl hm hp hq his hc0
  go_enter Tryd.func7, Tryd.ntmps7
  go_wp2_with fail
  refine HP.out.mono ?_
  rintro x w1 ⟨rfl, h1⟩
  have H1 := Lib.hid h1
  clear h1 HP
  go_wp2_with fail
  go_loopw [6, 7] (fun v6 v7 u => ∃ (i : Nat) (b : Bool), v6 = .bool b ∧ v7 = .int .i64 (i : Int) ∧ 1 ≤ i ∧ i ≤ 1000 ∧ Hid (canTo l i = b) ∧ w1 = u) (fun _ i _ => 1000 - (intOf i).toNat)
  case atStart => exact ⟨1, c0, rfl, rfl, by omega, by omega, HC0, rfl⟩
  case round =>
    clear HC0
    obtain ⟨i, b, rfl, rfl, hi1, hi2, HB, rfl⟩ := hrel
    by_cases c1 : i < S.size ∧ i ≤ 155
    · obtain ⟨c1, c2⟩ := c1
      have e1 : decide ((i : Int) < (S.size : Int)) = true := decide_eq_true (by omega)
      have e1' : decide (i < S.size) = true := decide_eq_true (by omega)
      have e2 : decide ((i : Int) ≤ 155) = true := decide_eq_true (by omega)
      have e2' : decide (i ≤ 155) = true := decide_eq_true (by omega)
      have HB2 := Lib.hid ((canTo_succ hi1).trans (by rw [HB.out]) : canTo l (i + 1) = (b || okAt l i))
      cases b with
      | true =>
        go_wp2_with fail
        exact ⟨⟨i + 1, true, rfl, by simp, by omega, by omega, Lib.hid HB2.out, by trivial⟩, by simp [intOf]; omega⟩
      | false =>
        have hx := index_at c1
        rw [HSd.out] at hx
        obtain ⟨x, hxx⟩ : ∃ x, l.getD i 0 = x := ⟨_, rfl⟩
        rw [hxx] at hx
        have HX := Lib.hid hxx
        clear hxx
        have t1 := byte_eq (x := x) (y := 47) 47 rfl
        by_cases c3 : x = 47
        · rw [decide_eq_true c3] at t1
          have HX2 := Lib.hid (HX.out.trans c3)
          clear c3
          by_cases c4 : S.size - i < 2
          · have e4 : decide ((S.size : Int) - (i : Int) ≥ 2) = false := decide_eq_false (by omega)
            have HN2 := Lib.hid (HB2.out.trans (show _ = false from okAt_last (by have := HSS.out; omega)))
            clear c4
            go_wp2_with fail
            exact ⟨⟨i + 1, false, rfl, by simp, by omega, by omega, HN2, by trivial⟩, by simp [intOf]; omega⟩
          · have e4 : decide ((S.size : Int) - (i : Int) ≥ 2) = true := decide_eq_true (by omega)
            by_cases c9 : 101 < S.size - i
            · have e3 : decide ((S.size : Int) - (i : Int) ≤ 101) = false := decide_eq_false (by omega)
              have HN2 := Lib.hid (HB2.out.trans (show _ = false from okAt_long (by have := HSS.out; omega)))
              clear c4 c9
              go_wp2_with fail
              exact ⟨⟨i + 1, false, rfl, by simp, by omega, by omega, HN2, by trivial⟩, by simp [intOf]; omega⟩
            · have e3 : decide ((S.size : Int) - (i : Int) ≤ 101) = true := decide_eq_true (by omega)
              have HN2 := Lib.hid (HB2.out.trans (show _ = true from okAt_yes HX2.out (by have := HSS.out; omega) (by have := HSS.out; omega)))
              clear c4 c9
              go_wp2_with fail
              exact ⟨⟨i + 1, true, rfl, by simp, by omega, by omega, HN2, by trivial⟩, by simp [intOf]; omega⟩
        · rw [decide_eq_false c3] at t1
          have HN2 := Lib.hid (HB2.out.trans (show _ = false from okAt_other (by rw [HX.out]; exact c3)))
          clear c3
          go_wp2_with fail
          exact ⟨⟨i + 1, false, rfl, by simp, by omega, by omega, HN2, by trivial⟩, by simp [intOf]; omega⟩
    · have HEnd := Lib.hid (show l.length ≤ i ∨ 155 < i by have := HSS.out; omega)
      by_cases c2 : i < S.size
      · have e1 : decide ((i : Int) < (S.size : Int)) = true := decide_eq_true (by omega)
        have e1' : decide (i < S.size) = true := decide_eq_true (by omega)
        have e2 : decide ((i : Int) ≤ 155) = false := decide_eq_false (by omega)
        have e2' : decide (i ≤ 155) = false := decide_eq_false (by omega)
        clear c1
        cases is with
        | false =>
          have HN := Lib.hid (HNo.out (by rw [HPE.out]))
          have HFi := Lib.hid (show ∀ u, Calls Tryd.prog 21 #[.string S] u (fun x w' => x = .returned (.bool false) ∧ u = w') from fun u => (HF.out u).mono (by rintro x w' ⟨rfl, hw⟩; exact ⟨by rw [HN.out.2], hw⟩))
          have hpq := HPE.out.symm.trans HN.out.1
          have hp : p = [] := congrArg (fun t => t.1) hpq
          have hq : q = [] := congrArg (fun t => t.2.1) hpq
          subst hp hq
          rw [show B [] = ⟨#[]⟩ from rfl]
          clear hpq HNo HYes HF HPE
          cases b with
          | true =>
            go_wp2_with fail
            refine (told_any _ (HM.out.only H1.out)).mono ?_
            rintro x w2 ⟨rfl, h2⟩
            have H2 := Lib.hid (H1.out.trans' h2)
            clear h2
            go_wp2_with fail
            refine (HFi.out _).mono ?_
            rintro x w3 ⟨rfl, rfl⟩
            go_wp2_with fail
            go_ret
            exact ⟨rfl, H2.out⟩
          | false =>
            go_wp2_with fail
            refine (told_any _ (HM.out.only H1.out)).mono ?_
            rintro x w2 ⟨rfl, h2⟩
            have H2 := Lib.hid (H1.out.trans' h2)
            clear h2
            go_wp2_with fail
            go_ret
            exact ⟨rfl, H2.out⟩
        | true =>
          have HY := Lib.hid (show p.length ≤ 155 ∧ q.length ≤ 100 ∧ joinL { hdr0 with name := q, pre := p } = l ∧ ∀ i, (l.length ≤ i ∨ 155 < i) → canTo l i = true by
            have := HYes.out (by rw [HPE.out])
            rw [HPE.out] at this
            exact this)
          have hb : b = true := HB.out.symm.trans (HY.out.2.2.2 i HEnd.out)
          subst hb
          have HJ := Lib.hid (fun u => join_any { hdr0 with name := q, pre := p } u (by have := HY.out.2.1; show q.length ≤ 1000; omega) (by have := HY.out.1; show p.length ≤ 1000; omega))
          have hp1 : (B p).size ≤ 155 := by rw [B_size]; exact HY.out.1
          have hq1 : (B q).size ≤ 100 := by rw [B_size]; exact HY.out.2.1
          have HJ2 := Lib.hid (show ∀ u, Calls Tryd.prog 19 #[hval { hdr0 with name := q, pre := p }] u (fun x w' => x = .returned (.string S) ∧ Only (fun _ => False) u w') from fun u => (HJ.out u).mono (by rintro x w' ⟨rfl, ho⟩; exact ⟨by rw [HY.out.2.2.1, HSB.out], ho⟩))
          obtain ⟨P1, hP1⟩ : ∃ P1, B p = P1 := ⟨_, rfl⟩
          obtain ⟨Q1, hQ1⟩ : ∃ Q1, B q = Q1 := ⟨_, rfl⟩
          replace HJ2 := Lib.hid (show ∀ u, Calls Tryd.prog 19 #[.agg #[.string Q1, .string P1, .string ⟨#[]⟩, .int .i64 0, .int .i64 0, .int .i64 0, .int .i64 0, .int .i64 0, .int .u8 0, .string ⟨#[]⟩, .string ⟨#[]⟩]] u (fun x w' => x = .returned (.string S) ∧ Only (fun _ => False) u w') by rw [← hP1, ← hQ1]; exact HJ2.out)
          rw [hP1] at hp1 ⊢
          rw [hQ1] at hq1 ⊢
          have g1 : decide ((P1.size : Int) ≤ 155) = true := decide_eq_true (by omega)
          have g1' : decide (P1.size ≤ 155) = true := decide_eq_true (by omega)
          have g2 : decide ((Q1.size : Int) ≤ 100) = true := decide_eq_true (by omega)
          have g2' : decide (Q1.size ≤ 100) = true := decide_eq_true (by omega)
          have g3 : (S.toList == S.toList) = true := beq_self_eq_true _
          clear hP1 hQ1 hp1 hq1 HJ HY HNo HYes HF HPE HB
          go_wp2_with fail
          refine (told_any _ (HM.out.only H1.out)).mono ?_
          rintro x w2 ⟨rfl, h2⟩
          have H2 := Lib.hid (H1.out.trans' h2)
          clear h2
          go_wp2_with fail
          refine (HJ2.out _).mono ?_
          rintro x w3 ⟨rfl, h3⟩
          have H3 := Lib.hid (H2.out.trans' h3)
          clear h3
          go_wp2_with fail
          go_ret
          exact ⟨rfl, H3.out⟩
      · have e1 : decide ((i : Int) < (S.size : Int)) = false := decide_eq_false (by omega)
        have e1' : decide (i < S.size) = false := decide_eq_false (by omega)
        clear c1
        cases is with
        | false =>
          have HN := Lib.hid (HNo.out (by rw [HPE.out]))
          have HFi := Lib.hid (show ∀ u, Calls Tryd.prog 21 #[.string S] u (fun x w' => x = .returned (.bool false) ∧ u = w') from fun u => (HF.out u).mono (by rintro x w' ⟨rfl, hw⟩; exact ⟨by rw [HN.out.2], hw⟩))
          have hpq := HPE.out.symm.trans HN.out.1
          have hp : p = [] := congrArg (fun t => t.1) hpq
          have hq : q = [] := congrArg (fun t => t.2.1) hpq
          subst hp hq
          rw [show B [] = ⟨#[]⟩ from rfl]
          clear hpq HNo HYes HF HPE
          cases b with
          | true =>
            go_wp2_with fail
            refine (told_any _ (HM.out.only H1.out)).mono ?_
            rintro x w2 ⟨rfl, h2⟩
            have H2 := Lib.hid (H1.out.trans' h2)
            clear h2
            go_wp2_with fail
            refine (HFi.out _).mono ?_
            rintro x w3 ⟨rfl, rfl⟩
            go_wp2_with fail
            go_ret
            exact ⟨rfl, H2.out⟩
          | false =>
            go_wp2_with fail
            refine (told_any _ (HM.out.only H1.out)).mono ?_
            rintro x w2 ⟨rfl, h2⟩
            have H2 := Lib.hid (H1.out.trans' h2)
            clear h2
            go_wp2_with fail
            go_ret
            exact ⟨rfl, H2.out⟩
        | true =>
          have HY := Lib.hid (show p.length ≤ 155 ∧ q.length ≤ 100 ∧ joinL { hdr0 with name := q, pre := p } = l ∧ ∀ i, (l.length ≤ i ∨ 155 < i) → canTo l i = true by
            have := HYes.out (by rw [HPE.out])
            rw [HPE.out] at this
            exact this)
          have hb : b = true := HB.out.symm.trans (HY.out.2.2.2 i HEnd.out)
          subst hb
          have HJ := Lib.hid (fun u => join_any { hdr0 with name := q, pre := p } u (by have := HY.out.2.1; show q.length ≤ 1000; omega) (by have := HY.out.1; show p.length ≤ 1000; omega))
          have hp1 : (B p).size ≤ 155 := by rw [B_size]; exact HY.out.1
          have hq1 : (B q).size ≤ 100 := by rw [B_size]; exact HY.out.2.1
          have HJ2 := Lib.hid (show ∀ u, Calls Tryd.prog 19 #[hval { hdr0 with name := q, pre := p }] u (fun x w' => x = .returned (.string S) ∧ Only (fun _ => False) u w') from fun u => (HJ.out u).mono (by rintro x w' ⟨rfl, ho⟩; exact ⟨by rw [HY.out.2.2.1, HSB.out], ho⟩))
          obtain ⟨P1, hP1⟩ : ∃ P1, B p = P1 := ⟨_, rfl⟩
          obtain ⟨Q1, hQ1⟩ : ∃ Q1, B q = Q1 := ⟨_, rfl⟩
          replace HJ2 := Lib.hid (show ∀ u, Calls Tryd.prog 19 #[.agg #[.string Q1, .string P1, .string ⟨#[]⟩, .int .i64 0, .int .i64 0, .int .i64 0, .int .i64 0, .int .i64 0, .int .u8 0, .string ⟨#[]⟩, .string ⟨#[]⟩]] u (fun x w' => x = .returned (.string S) ∧ Only (fun _ => False) u w') by rw [← hP1, ← hQ1]; exact HJ2.out)
          rw [hP1] at hp1 ⊢
          rw [hQ1] at hq1 ⊢
          have g1 : decide ((P1.size : Int) ≤ 155) = true := decide_eq_true (by omega)
          have g1' : decide (P1.size ≤ 155) = true := decide_eq_true (by omega)
          have g2 : decide ((Q1.size : Int) ≤ 100) = true := decide_eq_true (by omega)
          have g2' : decide (Q1.size ≤ 100) = true := decide_eq_true (by omega)
          have g3 : (S.toList == S.toList) = true := beq_self_eq_true _
          clear hP1 hQ1 hp1 hq1 HJ HY HNo HYes HF HPE HB
          go_wp2_with fail
          refine (told_any _ (HM.out.only H1.out)).mono ?_
          rintro x w2 ⟨rfl, h2⟩
          have H2 := Lib.hid (H1.out.trans' h2)
          clear h2
          go_wp2_with fail
          refine (HJ2.out _).mono ?_
          rintro x w3 ⟨rfl, h3⟩
          have H3 := Lib.hid (H2.out.trans' h3)
          clear h3
          go_wp2_with fail
          go_ret
          exact ⟨rfl, H3.out⟩
theorem lawParts {H : Type} {enc : TypeId × Value → H} {W : World} {base : Nat} {v0 : Value} {d0 : DataW H} {p0 : List MemPlace} {ts : List TypeId} {ds : List (DataW H)} (hm : MaxLen W)
    (ov0 : Value.okWide Tryd.prog W .any base 9 v0) (k0 : DataW.Trod enc Tryd.prog W 0 (fun _ => true) true 9 v0 d0 p0)
    (_ : (DataW.weightsEach Tryd.prog ts ds).all (· ≤ reachBytes) = true) :
    Calls Tryd.prog 7 #[v0] W fun e w' => e = .returned (.bool true) ∧ Below W.heap.size W w' := by
  obtain ⟨S, rfl, _, _, wS⟩ := Go.ChangeMaps.open_string Tryd.underlying9 ov0 k0
  by_cases hs : S.size ≤ 400
  · have := parts_any S.data.toList W hs hm
    rw [data_B] at this
    exact this.mono fun x w' h => ⟨h.1, h.2.none⟩
  · have HM := Lib.hid hm
    have a1 : decide ((S.size : Int) > 400) = true := decide_eq_true (by omega)
    have a1' : decide (400 < S.size) = true := decide_eq_true (by omega)
    clear k0 ov0 hm hs
    go_enter Tryd.func7, Tryd.ntmps7
    go_wp2_with fail
    refine (told_any _ HM.out).mono ?_
    rintro x w4 ⟨rfl, hb4⟩
    go_wp2_with fail
    go_ret
    exact ⟨rfl, hb4.none⟩
end Go.Proofs.YtggjdfnkmhlliaaDoor.Walks
