/- Contract of the law's count. -/
import Derived.Test.YtihcdecdkpbpmaaDoorNds
import Derived.Test.YtihcdecdkpbpmaaDoorNdT
import Derived.Test.YtihcdecdkpbpmaaDoorCnt
import Derived.Deep.QuietTactic
namespace Go.Proofs.YtihcdecdkpbpmaaDoor.Walks
open Go Go.RowKit Go.Proofs.YtihcdecdkpbpmaaDoor.Aid Go.Proofs.YtihcdecdkpbpmaaDoor.Pth Go.Proofs.YtihcdecdkpbpmaaDoor.Own Go.Proofs.YtihcdecdkpbpmaaDoorW.PrintWords

/-- A node without kids has an entry. -/
theorem leaf_has {P : List (List Str)} {f : List Str} {q : Str} (hq : q ∈ kidN P f) (h : kidN P (f ++ [q]) = []) : 0 ≤ entN P (f ++ [q]) := by
  obtain ⟨p, hp, hpr⟩ := mem_kidN.1 hq
  obtain ⟨r, e⟩ := hpr
  cases r with
  | nil => exact entN_mem.2 (by rw [List.append_nil] at e; rw [e]; exact hp)
  | cons x r =>
    have : x ∈ kidN P (f ++ [q]) := mem_kidN.2 ⟨p, hp, ⟨r, by rw [← e]; simp⟩⟩
    rw [h] at this
    cases this
def sumTo (P : List (List Str)) (f : List Str) (i : Nat) : Nat := (((kidN P f).take i).map (termN P f)).sum
theorem sumTo_zero (P : List (List Str)) (f : List Str) : sumTo P f 0 = 0 := by unfold sumTo; rw [List.take_zero]; rfl
theorem sumTo_succ {P : List (List Str)} {f : List Str} {i : Nat} {q : Str} (h : (kidN P f)[i]? = some q) : sumTo P f (i + 1) = sumTo P f i + termN P f q := by
  unfold sumTo
  rw [List.take_add_one, h, List.map_append, List.sum_append]
  simp
theorem sumTo_le (P : List (List Str)) (f : List Str) (i : Nat) : sumTo P f i ≤ P.length := by
  have h1 := sum_take_le ((kidN P f).map (termN P f)) i
  have h2 := cntF_le P f
  rw [cnt_sum] at h2
  rw [← List.map_take] at h1
  exact Nat.le_trans h1 h2
theorem sumTo_all {P : List (List Str)} {f : List Str} {i : Nat} (h : (kidN P f).length ≤ i) : sumTo P f i = cntF P f := by
  unfold sumTo
  rw [List.take_of_length_le h, cnt_sum]
attribute [-go_sem] loadVar
attribute [local go_sem] lv9 lv3 lvN
def CountPost (P : List (List Str)) (f : List Str) (w : World) (e : Ending) (w' : World) : Prop := e = .returned (.int .i64 (cntF P f : Int)) ∧ Only (fun _ => False) w w'
set_option maxRecDepth 100000 in
set_option maxHeartbeats 4000000 in
theorem count_step {U : Nat → Prop} {P : List (List Str)} {d : Nat} {f : List Str} {w : World} {t : Value} (hP : P.length ≤ 12) (ht : TreeIn U P (d + 1) f w t)
    (hK : ∀ u t' g, Only (fun _ => False) w u → TreeIn U P d g u t' → Calls Tryd.prog 13 #[t'] u (fun e w' => e = .returned (.int .i64 (cntF P g : Int)) ∧ Only (fun _ => False) u w')) :
    Calls Tryd.prog 13 #[t] w (CountPost P f w) := by
  obtain ⟨ns, hrn, hnn, hkn⟩ := ht
  have hb1 : ns.length ≤ 12 := by
    have h1 := congrArg List.length hnn
    rw [List.length_map] at h1
    have := kidN_len P f
    omega
  have hrn0 := hrn
  obtain ⟨T0, c0, rfl, _⟩ := hrn0
  have HRn := Lib.hid hrn
  have HKn := Lib.hid hkn
  have HNn := Lib.hid hnn
  have HK := Lib.hid hK
  have HSl := Lib.hid (fun i => Nat.le_trans (sumTo_le P f i) hP)
  obtain ⟨n, hn⟩ : ∃ n, ns.length = n := ⟨_, rfl⟩
  have HN := Lib.hid hn
  rw [hn] at HRn hb1 ⊢
  have b0 : n ≤ 12 := hb1
  clear hrn hnn hkn hK hn hP hb1
  go_enter Tryd.func13, Tryd.ntmps13
  go_wp2_with fail
  go_loopw [3, 4] (fun v3 v4 u => ∃ i : Nat, v4 = .int .i64 (i : Int) ∧ i ≤ n ∧ v3 = .int .i64 (sumTo P f i : Int) ∧ Hid (Only (fun _ => False) w u)) (fun _ i _ => n - (intOf i).toNat)
  case atStart => exact ⟨0, rfl, by omega, by rw [sumTo_zero]; rfl, Lib.hid (Only.refl _ w)⟩
  case round =>
    obtain ⟨i, rfl, hi, rfl, HU⟩ := hrel
    by_cases ci : i < n
    · have e1 : decide ((i : Int) < (n : Int)) = true := decide_eq_true (by omega)
      have e1' : decide (i < n) = true := decide_eq_true ci
      have e2 : (i : Int) < (n : Int) := by omega
      obtain ⟨N, hN⟩ : ∃ N, ns[i]? = some N := ⟨_, List.getElem?_eq_getElem (by rw [HN.out]; exact ci)⟩
      obtain ⟨ad, rfl, x0, x1, x2⟩ := rdN_cells (HRn.out.only HU.out (fun _ _ _ => id)) hN
      obtain ⟨g1, g2⟩ := HKn.out N (List.mem_of_getElem? hN)
      have hki : (kidN P f)[i]? = some N.name := by rw [← HNn.out, List.getElem?_map, hN]; rfl
      have hss := sumTo_succ hki
      have hq : N.name ∈ kidN P f := List.mem_of_getElem? hki
      have hleaf : N.n = 0 → 0 ≤ N.ent := fun e => by
        rw [g1]
        refine leaf_has hq ?_
        cases d with
        | zero => exact g2.elim
        | succ d =>
          obtain ⟨ms, ⟨_, _, e3, _⟩, hmm, _⟩ := g2
          unfold Nd.kids at e3
          injection e3 with _ e4 _
          rw [← hmm, List.eq_nil_of_length_eq_zero (e4.symm.trans e)]
          rfl
      have hterm : termN P f N.name = (if 0 ≤ N.ent then 1 else 0) + cntF P (f ++ [N.name]) := by
        unfold termN
        rw [g1]
        simp only [entN_mem]
      rw [hterm] at hss
      have hsl1 := HSl.out i
      have hsl2 := HSl.out (i + 1)
      have HC := Lib.hid (fun u (h : Only (fun _ => False) w u) => HK.out u N.kids (f ++ [N.name]) h (g2.only h (fun _ _ _ => id)))
      unfold Nd.kids at HC
      have hprev : 0 < i → ∃ M, wr.cell? (ad.add ((i - 1) * 3)) = some (.string (B M)) ∧ Op.bytesLess M N.name = true := fun h0 => by
        obtain ⟨M, hM⟩ : ∃ M, ns[i - 1]? = some M := ⟨_, List.getElem?_eq_getElem (by rw [HN.out]; omega)⟩
        obtain ⟨ad', e', y0, _, _⟩ := rdN_cells (HRn.out.only HU.out (fun _ _ _ => id)) hM
        injection e' with e'
        subst e'
        refine ⟨M.name, y0, ?_⟩
        have hr := rising_kidN P f
        have h1 : (kidN P f)[i - 1]? = some M.name := by rw [← HNn.out, List.getElem?_map, hM]; rfl
        obtain ⟨l1, w1⟩ := List.getElem?_eq_some_iff.1 h1
        obtain ⟨l2, w2⟩ := List.getElem?_eq_some_iff.1 hki
        have := List.pairwise_iff_getElem.1 hr (i - 1) i l1 l2 (by omega)
        rwa [w1, w2] at this
      obtain ⟨s0, hs0⟩ : ∃ s0, sumTo P f i = s0 := ⟨_, rfl⟩
      obtain ⟨s1, hs1⟩ : ∃ s1, sumTo P f (i + 1) = s1 := ⟨_, rfl⟩
      obtain ⟨z, hz⟩ : ∃ z, cntF P (f ++ [N.name]) = z := ⟨_, rfl⟩
      have HS1 := Lib.hid hs1
      rw [hs0, hs1, hz] at hss
      rw [hs0] at hsl1
      rw [hs1] at hsl2
      rw [hz] at HC
      rw [hs0]
      obtain ⟨e, he⟩ : ∃ e, N.ent = e := ⟨_, rfl⟩
      obtain ⟨X1, hX1⟩ : ∃ X1, N.A = X1 := ⟨_, rfl⟩
      obtain ⟨X2, hX2⟩ : ∃ X2, N.n = X2 := ⟨_, rfl⟩
      obtain ⟨X3, hX3⟩ : ∃ X3, N.c = X3 := ⟨_, rfl⟩
      obtain ⟨T, hT⟩ : ∃ T, B N.name = T := ⟨_, rfl⟩
      have hTl : T.toList = N.name := by rw [← hT, Lib.toList_data, B_data]
      rw [he] at hss x1 hleaf
      rw [hX2] at hleaf
      rw [hX1, hX2, hX3] at x2 HC
      rw [hT] at x0
      have hprev2 : 0 < i → ∃ T' : ByteArray, wr.cell? (ad.add ((i - 1) * 3)) = some (.string T') ∧ Op.bytesLess T'.toList T.toList = true := fun h0 => by
        obtain ⟨M, h1, h2⟩ := hprev h0
        exact ⟨B M, h1, by rw [hTl, Lib.toList_data, B_data]; exact h2⟩
      have HLf := Lib.hid hleaf
      have HPv := Lib.hid hprev2
      clear hprev hprev2 hleaf hterm hq hki g1 g2 hN hs0 hs1 hz he hX1 hX2 hX3 hT hTl
      by_cases ce : 0 ≤ e
      · have d1 : decide (e ≥ 0) = true := decide_eq_true ce
        have d2 : decide (e < 0) = false := decide_eq_false (by omega)
        rw [if_pos ce] at hss
        by_cases c0' : 0 < i
        · obtain ⟨T', y0, hlt⟩ := HPv.out c0'
          have i1 : decide ((i : Int) > 0) = true := decide_eq_true (by omega)
          have i1' : decide (0 < i) = true := decide_eq_true c0'
          have i2 : (0 : Int) ≤ (i : Int) - 1 := by omega
          have i3 : (i : Int) - 1 < (n : Int) := by omega
          have i4 : ((i : Int) - 1).toNat = i - 1 := by omega
          by_cases cx : X2 = 0
          · subst cx
            go_upto_region 7 with (fail)
            go_quiet (fail)
            go_wp2_with (go_at_call 13; (with_reducible refine (HC.out _ (HU.out.drewN _)).mono ?_); rintro x w5 ⟨rfl, ho5⟩; have HO5 := Lib.hid ((HU.out.drewN _).trans' ho5); clear ho5)
            exact ⟨⟨i + 1, by simp, by omega, by rw [HS1.out]; exact congrArg (Value.int .i64) (by omega), HO5⟩, by simp [intOf]; omega⟩
          · have k1 : ((X2 : Int) == 0) = false := by rw [beq_eq_false_iff_ne]; omega
            clear cx
            go_upto_region 7 with (fail)
            go_quiet (fail)
            go_wp2_with (go_at_call 13; (with_reducible refine (HC.out _ (HU.out.drewN _)).mono ?_); rintro x w5 ⟨rfl, ho5⟩; have HO5 := Lib.hid ((HU.out.drewN _).trans' ho5); clear ho5)
            exact ⟨⟨i + 1, by simp, by omega, by rw [HS1.out]; exact congrArg (Value.int .i64) (by omega), HO5⟩, by simp [intOf]; omega⟩
        · have i1 : decide ((i : Int) > 0) = false := decide_eq_false (by omega)
          have i1' : decide (0 < i) = false := decide_eq_false c0'
          clear c0'
          by_cases cx : X2 = 0
          · subst cx
            go_upto_region 7 with (fail)
            go_quiet (fail)
            go_wp2_with (go_at_call 13; (with_reducible refine (HC.out _ (HU.out.drewN _)).mono ?_); rintro x w5 ⟨rfl, ho5⟩; have HO5 := Lib.hid ((HU.out.drewN _).trans' ho5); clear ho5)
            exact ⟨⟨i + 1, by simp, by omega, by rw [HS1.out]; exact congrArg (Value.int .i64) (by omega), HO5⟩, by simp [intOf]; omega⟩
          · have k1 : ((X2 : Int) == 0) = false := by rw [beq_eq_false_iff_ne]; omega
            clear cx
            go_upto_region 7 with (fail)
            go_quiet (fail)
            go_wp2_with (go_at_call 13; (with_reducible refine (HC.out _ (HU.out.drewN _)).mono ?_); rintro x w5 ⟨rfl, ho5⟩; have HO5 := Lib.hid ((HU.out.drewN _).trans' ho5); clear ho5)
            exact ⟨⟨i + 1, by simp, by omega, by rw [HS1.out]; exact congrArg (Value.int .i64) (by omega), HO5⟩, by simp [intOf]; omega⟩
      · have d1 : decide (e ≥ 0) = false := decide_eq_false ce
        have d2 : decide (e < 0) = true := decide_eq_true (by omega)
        rw [if_neg ce] at hss
        by_cases c0' : 0 < i
        · obtain ⟨T', y0, hlt⟩ := HPv.out c0'
          have i1 : decide ((i : Int) > 0) = true := decide_eq_true (by omega)
          have i1' : decide (0 < i) = true := decide_eq_true c0'
          have i2 : (0 : Int) ≤ (i : Int) - 1 := by omega
          have i3 : (i : Int) - 1 < (n : Int) := by omega
          have i4 : ((i : Int) - 1).toNat = i - 1 := by omega
          have cx : X2 ≠ 0 := fun h => ce (HLf.out h)
          have k1 : ((X2 : Int) == 0) = false := by rw [beq_eq_false_iff_ne]; omega
          clear cx
          go_upto_region 7 with (fail)
          go_quiet (fail)
          go_wp2_with (go_at_call 13; (with_reducible refine (HC.out _ (HU.out.drewN _)).mono ?_); rintro x w5 ⟨rfl, ho5⟩; have HO5 := Lib.hid ((HU.out.drewN _).trans' ho5); clear ho5)
          exact ⟨⟨i + 1, by simp, by omega, by rw [HS1.out]; exact congrArg (Value.int .i64) (by omega), HO5⟩, by simp [intOf]; omega⟩
        · have i1 : decide ((i : Int) > 0) = false := decide_eq_false (by omega)
          have i1' : decide (0 < i) = false := decide_eq_false c0'
          clear c0'
          have cx : X2 ≠ 0 := fun h => ce (HLf.out h)
          have k1 : ((X2 : Int) == 0) = false := by rw [beq_eq_false_iff_ne]; omega
          clear cx
          go_upto_region 7 with (fail)
          go_quiet (fail)
          go_wp2_with (go_at_call 13; (with_reducible refine (HC.out _ (HU.out.drewN _)).mono ?_); rintro x w5 ⟨rfl, ho5⟩; have HO5 := Lib.hid ((HU.out.drewN _).trans' ho5); clear ho5)
          exact ⟨⟨i + 1, by simp, by omega, by rw [HS1.out]; exact congrArg (Value.int .i64) (by omega), HO5⟩, by simp [intOf]; omega⟩
    · have e1 : decide ((i : Int) < (n : Int)) = false := decide_eq_false (by omega)
      have e1' : decide (i < n) = false := decide_eq_false ci
      have hall : sumTo P f i = cntF P f := sumTo_all (by have := congrArg List.length HNn.out; rw [List.length_map, HN.out] at this; omega)
      have HAll := Lib.hid hall
      clear hall
      go_wp2_with fail
      go_ret
      exact ⟨by rw [← HAll.out]; rfl, HU.out⟩
theorem cnt_any {U : Nat → Prop} {P : List (List Str)} (hP : P.length ≤ 12) : ∀ (d : Nat) (f : List Str) (w : World) (t : Value), TreeIn U P d f w t → Calls Tryd.prog 13 #[t] w (fun e w' => e = .returned (.int .i64 (cntF P f : Int)) ∧ Only (fun _ => False) w w')
  | 0, _, _, _, ht => ht.elim
  | d + 1, _, _, _, ht => count_step hP ht fun u t' g _ h => cnt_any hP d g u t' h
end Go.Proofs.YtihcdecdkpbpmaaDoor.Walks
