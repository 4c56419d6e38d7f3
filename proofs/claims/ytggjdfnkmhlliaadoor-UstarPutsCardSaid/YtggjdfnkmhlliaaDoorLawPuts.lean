/- UstarPuts: the law's function says yes of every header and path. -/
import Derived.Test.YtggjdfnkmhlliaaDoorOpenH
import Derived.Test.YtggjdfnkmhlliaaDoorRPut9
namespace Go.Proofs.YtggjdfnkmhlliaaDoor.Walks
open Go Go.RowKit Go.Proofs.YtggjdfnkmhlliaaDoor.Aid Go.Proofs.YtggjdfnkmhlliaaDoor.Own Go.Proofs.YtggjdfnkmhlliaaDoorW.PrintWords

theorem keep_puts {u u' : World} {A : Option Addr} {l : Str} {g : Nat} {o : Obj} (h : RdU u A l ∧ u.heap[g]? = some o ∧ MaxLen u) (ho : Only (fun _ => False) u u') : RdU u' A l ∧ u'.heap[g]? = some o ∧ MaxLen u' :=
  ⟨h.1.only ho, ho.keeps h.2.1 id, h.2.2.only ho⟩
attribute [-go_sem] loadVar
attribute [local go_sem] lv9 lv3 lv5 lv22
set_option maxRecDepth 100000 in
set_option maxHeartbeats 4000000 in
theorem puts_any (H : Hdr) (l : Str) (w : World) (hin : HIn H) (hm : MaxLen w) : Calls Tryd.prog 6 #[hval H, .string (B l)] w (BoolPost true w) := by
  have HIn := Lib.hid hin
  have HO := Lib.hid ((Only.refl (fun _ => False) w).alloc (.cells (hrow H) 24))
  have hb := alloc_new w (.cells (hrow H) 24)
  obtain ⟨g1, hg1⟩ : ∃ g1, w.heap.size = g1 := ⟨_, rfl⟩
  obtain ⟨W, hW⟩ : ∃ W, w.alloc (.cells (hrow H) 24) = W := ⟨_, rfl⟩
  rw [hW, hg1] at hb
  rw [hW] at HO
  have HBk := Lib.hid hb
  have HGW := Lib.hid (And.intro hg1 hW)
  have HMW := Lib.hid (hm.only HO.out)
  have c0 : W.cell? ⟨g1, 0, none⟩ = some (.string (B H.name)) := Joins.cell_of_block hb 0
  have c1 : W.cell? ⟨g1, 1, none⟩ = some (.string (B H.pre)) := Joins.cell_of_block hb 1
  have c2 : W.cell? ⟨g1, 2, none⟩ = some (.string (B H.target)) := Joins.cell_of_block hb 2
  have c9 : W.cell? ⟨g1, 9, none⟩ = some (.string (B H.user)) := Joins.cell_of_block hb 9
  have c10 : W.cell? ⟨g1, 10, none⟩ = some (.string (B H.group)) := Joins.cell_of_block hb 10
  obtain ⟨S, hS⟩ : ∃ S, B l = S := ⟨_, rfl⟩
  have HSS := Lib.hid (show S.size = l.length by rw [← hS, B_size])
  have HSB := Lib.hid hS
  rw [hS]
  clear hg1 hW hb hm hin hS
  go_enter Tryd.func6, Tryd.ntmps6
  go_upto_region 1 with (fail)
  change Code.wp Tryd.prog _ _ _ (w.alloc (.cells (hrow H) 24))
  rw [HGW.out.2, HGW.out.1]
  by_cases a0 : S.size ≤ 400
  · have e0 : decide (((S.size : Nat) : Int) > 400) = false := decide_eq_false (by omega)
    have e0' : decide (400 < S.size) = false := decide_eq_false (by omega)
    by_cases a1 : (B H.name).size ≤ 300
    · have e1 : decide ((((B H.name).size : Nat) : Int) > 300) = false := decide_eq_false (by omega)
      have e1' : decide (300 < (B H.name).size) = false := decide_eq_false (by omega)
      by_cases a2 : (B H.pre).size ≤ 300
      · have e2 : decide ((((B H.pre).size : Nat) : Int) > 300) = false := decide_eq_false (by omega)
        have e2' : decide (300 < (B H.pre).size) = false := decide_eq_false (by omega)
        by_cases a3 : (B H.target).size ≤ 300
        · have e3 : decide ((((B H.target).size : Nat) : Int) > 300) = false := decide_eq_false (by omega)
          have e3' : decide (300 < (B H.target).size) = false := decide_eq_false (by omega)
          by_cases a4 : (B H.user).size ≤ 300
          · have e4 : decide ((((B H.user).size : Nat) : Int) > 300) = false := decide_eq_false (by omega)
            have e4' : decide (300 < (B H.user).size) = false := decide_eq_false (by omega)
            by_cases a5 : (B H.group).size ≤ 300
            · have e5 : decide ((((B H.group).size : Nat) : Int) > 300) = false := decide_eq_false (by omega)
              have e5' : decide (300 < (B H.group).size) = false := decide_eq_false (by omega)
              have hH : HOk H := HIn.out.ok (n := 300) (by decide) (by rw [← B_size]; exact a1) (by rw [← B_size]; exact a2) (by rw [← B_size]; exact a3) (by rw [← B_size]; exact a4) (by rw [← B_size]; exact a5)
              have HP1 := Lib.hid (fun u => put_any (H := H) u hH)
              have HP2 := Lib.hid (fun u => rput_any (H := H) u hH)
              have HP3 := Lib.hid (fun u => part_any l u (by have := HSS.out; omega))
              have HP4 := Lib.hid (fun u => rpart_any l u (by have := HSS.out; omega))
              have HP5 := Lib.hid (fun u => join_any H u hH.name hH.pre)
              have HP6 := Lib.hid (fun u => rjoin_any H u hH.name hH.pre)
              rw [HSB.out] at HP3 HP4
              clear a0 a1 a2 a3 a4 a5 hH
              go_wp2_with (first
                | (with_reducible refine gate 50 rfl ?_; refine load_hdr rfl _ rfl rfl HBk.out ?_))
              refine (HP1.out _).mono ?_
              rintro x w1 ⟨A, n, c, rfl, h1, h2, h3, h4⟩
              have HN := Lib.hid h1
              have HC := Lib.hid h2
              have HR := Lib.hid h3
              have H1 := Lib.hid h4
              clear h1 h2 h3 h4
              go_wp2_with (first
                | (with_reducible refine gate 55 rfl ?_; refine load_hdr rfl _ rfl rfl (H1.out.keeps HBk.out id) ?_))
              refine (HP2.out _).mono ?_
              rintro x w2 ⟨rfl, h2⟩
              have H2 := Lib.hid (H1.out.trans' h2)
              replace HR := Lib.hid (HR.out.only h2)
              clear h2
              go_wp2_with fail
              refine (HP3.out _).mono ?_
              rintro x w3 ⟨rfl, h3⟩
              have H3 := Lib.hid (H2.out.trans' h3)
              replace HR := Lib.hid (HR.out.only h3)
              clear h3
              go_wp2_with fail
              refine (HP4.out _).mono ?_
              rintro x w4 ⟨rfl, h4⟩
              have H4 := Lib.hid (H3.out.trans' h4)
              replace HR := Lib.hid (HR.out.only h4)
              clear h4
              have HCV := Lib.hid (fun u (hr : RdU u A (putL H).1) => str_u c hr HN.out)
              obtain ⟨P0, hP0⟩ : ∃ P0, B (putL H).1 = P0 := ⟨_, rfl⟩
              obtain ⟨l0, hl0⟩ : ∃ l0, (putL H).1 = l0 := ⟨_, rfl⟩
              obtain ⟨x0, hx0⟩ : ∃ x0, (putL H).2 = x0 := ⟨_, rfl⟩
              obtain ⟨P1, hP1⟩ : ∃ P1, B (partL l).1 = P1 := ⟨_, rfl⟩
              obtain ⟨P2, hP2⟩ : ∃ P2, B (partL l).2.1 = P2 := ⟨_, rfl⟩
              obtain ⟨is, his⟩ : ∃ is, (partL l).2.2 = is := ⟨_, rfl⟩
              obtain ⟨J, hJ⟩ : ∃ J, B (joinL H) = J := ⟨_, rfl⟩
              replace HP5 := Lib.hid (show ∀ u, Calls Tryd.prog 19 #[hval H] u (fun x w' => x = .returned (.string J) ∧ Only (fun _ => False) u w') by rw [← hJ]; exact HP5.out)
              replace HP6 := Lib.hid (show ∀ u, Calls Tryd.prog 20 #[hval H] u (fun x w' => x = .returned (.string J) ∧ Only (fun _ => False) u w') by rw [← hJ]; exact HP6.out)
              rw [hP0, hl0] at HCV
              rw [hl0] at HR
              rw [hP0, hx0, hP1, hP2, his]
              have r0 : (P0.toList == P0.toList) = true := beq_self_eq_true _
              have r1 : (x0 == x0) = true := beq_self_eq_true _
              have r2 : (P1.toList == P1.toList) = true := beq_self_eq_true _
              have r3 : (P2.toList == P2.toList) = true := beq_self_eq_true _
              have r4 : (is == is) = true := beq_self_eq_true _
              have r5 : (J.toList == J.toList) = true := beq_self_eq_true _
              have HB4 := Lib.hid (H4.out.keeps HBk.out id)
              clear hP0 hl0 hx0 hP1 hP2 his hJ HP1 HP2 HP3 HP4 HN HC H1 H2 H3
              have hS0 : RdU w4 A l0 ∧ w4.heap[g1]? = some (.cells (hrow H) 24 (0, 0)) ∧ MaxLen w4 := ⟨HR.out, HB4.out, HMW.out.only H4.out⟩
              have hcv : ∀ u, RdU u A l0 ∧ u.heap[g1]? = some (.cells (hrow H) 24 (0, 0)) ∧ MaxLen u → (convert 22 9 (.slice A n c)).run Tryd.prog u = .ok (.string P0) u := fun u h => HCV.out u h.1
              have hld : ∀ u, RdU u A l0 ∧ u.heap[g1]? = some (.cells (hrow H) 24 (0, 0)) ∧ MaxLen u → (loadVar 24 ⟨g1, 0, none⟩).run Tryd.prog u = .ok (hval H) u := fun u h => load24 h.2.1
              go_upto_region 7 with (fail)
              go_region_held3 (fun u => RdU u A l0 ∧ u.heap[g1]? = some (.cells (hrow H) 24 (0, 0)) ∧ MaxLen u) (first | exact keep_puts hS0 ((Only.refl (fun _ => False) _).drew) | exact keep_puts (by assumption) (by assumption)) (first
                | (fail)
                | (go_at_call 8; refine (told_any _ (show _ ∧ _ ∧ MaxLen _ by assumption).2.2).mono ?_; rintro x w5 ⟨rfl, h5⟩)
                | (go_at_call 19; refine (HP5.out _).mono ?_; rintro x w6 ⟨rfl, h6⟩)
                | (go_at_call 20; refine (HP6.out _).mono ?_; rintro x w7 ⟨rfl, h7⟩))
              go_wp2_with fail
              go_ret
              exact ⟨rfl, ((((HO.out.trans' H4.out).trans' ((Only.refl _ w4).drew.trans' h5)).trans' h6).trans' h7)⟩
            · have e5 : decide ((((B H.group).size : Nat) : Int) > 300) = true := decide_eq_true (by omega)
              have e5' : decide (300 < (B H.group).size) = true := decide_eq_true (by omega)
              go_wp2_with fail
              refine (told_any _ HMW.out).mono ?_
              rintro x w4 ⟨rfl, hb4⟩
              have HF := Lib.hid (HO.out.trans' hb4)
              go_wp2_with fail
              go_ret
              exact ⟨rfl, HF.out⟩
          · have e4 : decide ((((B H.user).size : Nat) : Int) > 300) = true := decide_eq_true (by omega)
            have e4' : decide (300 < (B H.user).size) = true := decide_eq_true (by omega)
            go_wp2_with fail
            refine (told_any _ HMW.out).mono ?_
            rintro x w4 ⟨rfl, hb4⟩
            have HF := Lib.hid (HO.out.trans' hb4)
            go_wp2_with fail
            go_ret
            exact ⟨rfl, HF.out⟩
        · have e3 : decide ((((B H.target).size : Nat) : Int) > 300) = true := decide_eq_true (by omega)
          have e3' : decide (300 < (B H.target).size) = true := decide_eq_true (by omega)
          go_wp2_with fail
          refine (told_any _ HMW.out).mono ?_
          rintro x w4 ⟨rfl, hb4⟩
          have HF := Lib.hid (HO.out.trans' hb4)
          go_wp2_with fail
          go_ret
          exact ⟨rfl, HF.out⟩
      · have e2 : decide ((((B H.pre).size : Nat) : Int) > 300) = true := decide_eq_true (by omega)
        have e2' : decide (300 < (B H.pre).size) = true := decide_eq_true (by omega)
        go_wp2_with fail
        refine (told_any _ HMW.out).mono ?_
        rintro x w4 ⟨rfl, hb4⟩
        have HF := Lib.hid (HO.out.trans' hb4)
        go_wp2_with fail
        go_ret
        exact ⟨rfl, HF.out⟩
    · have e1 : decide ((((B H.name).size : Nat) : Int) > 300) = true := decide_eq_true (by omega)
      have e1' : decide (300 < (B H.name).size) = true := decide_eq_true (by omega)
      go_wp2_with fail
      refine (told_any _ HMW.out).mono ?_
      rintro x w4 ⟨rfl, hb4⟩
      have HF := Lib.hid (HO.out.trans' hb4)
      go_wp2_with fail
      go_ret
      exact ⟨rfl, HF.out⟩
  · have e0 : decide (((S.size : Nat) : Int) > 400) = true := decide_eq_true (by omega)
    have e0' : decide (400 < S.size) = true := decide_eq_true (by omega)
    go_wp2_with fail
    refine (told_any _ HMW.out).mono ?_
    rintro x w4 ⟨rfl, hb4⟩
    have HF := Lib.hid (HO.out.trans' hb4)
    go_wp2_with fail
    go_ret
    exact ⟨rfl, HF.out⟩
theorem lawPuts {H : Type} {enc : TypeId × Value → H} {W : World} {base : Nat} {v0 v1 : Value} {d0 d1 : DataW H} {p0 p1 : List MemPlace} {ts : List TypeId} {ds : List (DataW H)} (hm : MaxLen W)
    (ov0 : Value.okWide Tryd.prog W .any base 24 v0) (k0 : DataW.Trod enc Tryd.prog W 0 (fun _ => true) true 24 v0 d0 p0)
    (ov1 : Value.okWide Tryd.prog W .any base 9 v1) (k1 : DataW.Trod enc Tryd.prog W 0 (fun _ => true) true 9 v1 d1 p1)
    (_ : (DataW.weightsEach Tryd.prog ts ds).all (· ≤ reachBytes) = true) :
    Calls Tryd.prog 6 #[v0, v1] W fun e w' => e = .returned (.bool true) ∧ Below W.heap.size W w' := by
  obtain ⟨K, rfl, hin⟩ := open_hdr ov0 k0
  obtain ⟨S, rfl, _, _, _⟩ := Go.ChangeMaps.open_string Tryd.underlying9 ov1 k1
  have := puts_any K S.data.toList W hin hm
  rw [data_B] at this
  exact this.mono fun x w' h => ⟨h.1, h.2.none⟩
end Go.Proofs.YtggjdfnkmhlliaaDoor.Walks
