/- Contract of the law's find. -/
import Derived.Test.YtihcdecdkpbpmaaDoorNds
import Derived.Test.YtihcdecdkpbpmaaDoorNdT
import Derived.Deep.QuietTactic
namespace Go.Proofs.YtihcdecdkpbpmaaDoor.Walks
open Go Go.RowKit Go.Proofs.YtihcdecdkpbpmaaDoor.Aid Go.Proofs.YtihcdecdkpbpmaaDoor.Pth Go.Proofs.YtihcdecdkpbpmaaDoor.Own Go.Proofs.YtihcdecdkpbpmaaDoor.OwnS Go.Proofs.YtihcdecdkpbpmaaDoorW.PrintWords

theorem rdS_tail {w : World} {ad : Addr} {x : ByteArray} {xs : List ByteArray} (h : RdS w (some ad) (x :: xs)) : RdS w (some (ad.add 1)) xs := fun h0 => by
  obtain ⟨ad', e, hc⟩ := h (by simp)
  injection e with e
  subst e
  refine ⟨_, rfl, fun j hj => ?_⟩
  rw [add_add, Nat.add_comm 1 j]
  exact hc (j + 1) (by simp; exact hj)
theorem rdS_head {w : World} {A : Option Addr} {x : ByteArray} {xs : List ByteArray} (h : RdS w A (x :: xs)) : ∃ ad, A = some ad ∧ w.cell? ad = some (.string x) := by
  obtain ⟨ad, e, hc⟩ := h (by simp)
  refine ⟨ad, e, ?_⟩
  have := hc 0 (by simp)
  have z : ad.add 0 = ad := by unfold Addr.add; simp
  rw [z] at this
  exact this
theorem str_neB (s t : Str) : ((B s).toList != (B t).toList) = !decide (s = t) := by
  rw [bne, str_eqB]
attribute [-go_sem] loadVar
attribute [local go_sem] lv9 lv3 lvN
def FindPost (P : List (List Str)) (g : List Str) (w : World) (e : Ending) (w' : World) : Prop := e = .returned (.int .i64 (entN P g)) ∧ Only (fun _ => False) w w'
set_option maxRecDepth 100000 in
set_option maxHeartbeats 4000000 in
theorem find_step {U : Nat → Prop} {P : List (List Str)} {d : Nat} {f p : List Str} {q : Str} {w : World} {t : Value} {A : Option Addr} {m c : Nat} (hP : P.length ≤ 12) (ht : TreeIn U P (d + 1) f w t) (hA : RdS w A ((q :: p).map B)) (hm : (q :: p).length = m) (hc : m ≤ c) (hmem : f ++ q :: p ∈ P)
    (hK : ∀ u t' A' c', p ≠ [] → Only (fun _ => False) w u → TreeIn U P d (f ++ [q]) u t' → RdS u A' (p.map B) → m - 1 ≤ c' → Calls Tryd.prog 12 #[t', .slice A' (m - 1) c'] u (fun e w' => e = .returned (.int .i64 (entN P (f ++ q :: p))) ∧ Only (fun _ => False) u w')) :
    Calls Tryd.prog 12 #[t, .slice A m c] w (FindPost P (f ++ q :: p) w) := by
  obtain ⟨ns, hrn, hnn, hkn⟩ := ht
  have hq : q ∈ kidN P f := mem_kidN.2 ⟨_, hmem, ⟨p, by simp⟩⟩
  have hb1 : ns.length ≤ 12 := by
    have h1 := congrArg List.length hnn
    rw [List.length_map] at h1
    have := kidN_len P f
    omega
  obtain ⟨j, hj⟩ := List.mem_iff_getElem?.1 hq
  rw [← hnn] at hj
  have hjl : j < ns.length := by have := (List.getElem?_eq_some_iff.1 hj).1; rwa [List.length_map] at this
  have hnd : (ns.map (·.name)).Nodup := by rw [hnn]; exact rising_nodup (rising_kidN P f)
  have HNe := Lib.hid (fun i N (hi : ns[i]? = some N) (hij : i ≠ j) (e : N.name = q) => show False from by
    have h1 : (ns.map (·.name))[i]? = some q := by rw [List.getElem?_map, hi, ← e]; rfl
    have hl : i < (ns.map (·.name)).length := (List.getElem?_eq_some_iff.1 h1).1
    exact hij ((List.getElem?_inj hl hnd).1 (h1.trans hj.symm)))
  have hrn0 := hrn
  obtain ⟨T0, c0, rfl, _⟩ := hrn0
  have HRn := Lib.hid hrn
  have HKn := Lib.hid hkn
  have HJ := Lib.hid hj
  have HA := Lib.hid hA
  have HK := Lib.hid hK
  have HMl := Lib.hid hm
  obtain ⟨n, hn⟩ : ∃ n, ns.length = n := ⟨_, rfl⟩
  have HN := Lib.hid hn
  rw [hn] at HRn hb1 hjl ⊢
  have hm1 : 1 ≤ m := by rw [← hm]; simp
  clear hrn hnn hkn hnd hj hq hK hmem hA hn hP hm
  go_enter Tryd.func12, Tryd.ntmps12
  go_wp2_with fail
  go_loopw [5] (fun v5 u => ∃ i : Nat, v5 = .int .i64 (i : Int) ∧ i ≤ j ∧ Hid (Only (fun _ => False) w u)) (fun i _ => j + 1 - (intOf i).toNat)
  case atStart => exact ⟨0, rfl, by omega, Lib.hid (Only.refl _ w)⟩
  case round =>
    obtain ⟨i, rfl, hi, HU⟩ := hrel
    have ci : i < n := by omega
    have e1 : decide ((i : Int) < (n : Int)) = true := decide_eq_true (by omega)
    have e1' : decide (i < n) = true := decide_eq_true ci
    have e2 : (i : Int) < (n : Int) := by omega
    obtain ⟨N, hN⟩ : ∃ N, ns[i]? = some N := ⟨_, List.getElem?_eq_getElem (by rw [HN.out]; exact ci)⟩
    obtain ⟨ad, rfl, x0, x1, x2⟩ := rdN_cells (HRn.out.only HU.out (fun _ _ _ => id)) hN
    obtain ⟨ada, rfl, a0⟩ := rdS_head (show RdS wr A (B q :: p.map B) from HA.out.only HU.out)
    have hcm : (0 : Int) < (m : Int) := by omega
    by_cases cj : i = j
    · subst cj
      have hname : N.name = q := by
        have h1 := HJ.out
        rw [List.getElem?_map, hN] at h1
        exact Option.some.inj h1
      obtain ⟨g1, g2⟩ := HKn.out N (List.mem_of_getElem? hN)
      rw [hname] at x0 g1 g2
      have q1 : ((B q).toList != (B q).toList) = false := by simp
      obtain ⟨T, hT⟩ : ∃ T, B q = T := ⟨_, rfl⟩
      rw [hT] at x0 a0 q1
      by_cases cm : m = 1
      · have hp : p = [] := by
          have := HMl.out
          rw [List.length_cons] at this
          exact List.eq_nil_of_length_eq_zero (by omega)
        subst hp
        have HPost := Lib.hid g1
        obtain ⟨e, he⟩ : ∃ e, N.ent = e := ⟨_, rfl⟩
        rw [he] at HPost x1
        have g4 : ((m : Int) == 1) = true := by rw [cm]; rfl
        clear hT hname g1 g2 hN he cm
        go_upto_region 4 with (fail)
        go_quiet (fail)
        go_wp2_with fail
        go_ret
        exact ⟨by rw [HPost.out]; rfl, HU.out.drewN _⟩
      · have hp : p ≠ [] := fun e => cm (by have := HMl.out; rw [e] at this; exact this.symm)
        have g4 : ((m : Int) == 1) = false := by rw [beq_eq_false_iff_ne]; omega
        have HC := Lib.hid (fun (nk : Nat) (x : Later (wr.drewN nk)) => HK.out x.w N.kids (some (ada.add 1)) (c - 1) hp ((HU.out.drewN nk).trans' x.h) (g2.only ((HU.out.drewN nk).trans' x.h) (fun _ _ _ => id)) (rdS_tail (show RdS x.w (some ada) (B q :: p.map B) from HA.out.only ((HU.out.drewN nk).trans' x.h))) (by omega))
        unfold Nd.kids at HC
        obtain ⟨X1, hX1⟩ : ∃ X1, N.A = X1 := ⟨_, rfl⟩
        obtain ⟨X2, hX2⟩ : ∃ X2, N.n = X2 := ⟨_, rfl⟩
        obtain ⟨X3, hX3⟩ : ∃ X3, N.c = X3 := ⟨_, rfl⟩
        rw [hX1, hX2, hX3] at x2 HC
        obtain ⟨e, he⟩ : ∃ e, entN P (f ++ q :: p) = e := ⟨_, rfl⟩
        have HEe := Lib.hid he
        rw [he] at HC
        have z2 : ∀ (nk : Nat) (x : Later (wr.drewN nk)), x.w.cell? ⟨(ad.add (i * 3)).block, (ad.add (i * 3)).off + 2, none⟩ = some (.slice X1 X2 X3) := fun nk x => (((Only.refl (fun _ => False) wr).drewN nk).trans' x.h).cell x2 id
        have c1 : ¬ c = 1 := by omega
        have c2 : (1 : Int) ≤ (m : Int) := by omega
        have c3 : (m : Int) ≤ (c : Int) := by omega
        clear hT hname g1 g2 hN hX1 hX2 hX3 he cm
        go_upto_region 4 with (fail)
        go_quiet (fail)
        go_upto_region 7 with (fail)
        refine wp_region_later (by kernel_rfl) (by kernel_rfl) ?_
        repeat (go_big_quiet_step ((go_at_call 12; exact Calls.later (HC.out _ _))))
        refine wpQuiet_nil ?_
        rintro u ⟨x, hx⟩
        have hu := x.h
        rw [← hx] at hu
        clear hx
        go_wp2_with fail
        go_ret
        exact ⟨by rw [HEe.out]; rfl, (HU.out.drewN _).trans' hu⟩
    · have hne : N.name ≠ q := fun e => HNe.out i N hN cj e
      have q1 : ((B N.name).toList == (B q).toList) = false := by rw [str_eqB, decide_eq_false hne]
      obtain ⟨T, hT⟩ : ∃ T, B q = T := ⟨_, rfl⟩
      obtain ⟨T1, hT1⟩ : ∃ T1, B N.name = T1 := ⟨_, rfl⟩
      rw [hT] at a0 q1
      rw [hT1] at x0 q1
      clear hT hT1 hne hN
      go_upto_region 4 with (fail)
      go_quiet (fail)
      go_wp2_with fail
      exact ⟨⟨i + 1, by simp, by omega, Lib.hid (HU.out.drewN _)⟩, by simp [intOf]; omega⟩
theorem fnd_any {U : Nat → Prop} {P : List (List Str)} (hP : P.length ≤ 12) : ∀ (d : Nat) (f p : List Str) (w : World) (t : Value) (A : Option Addr) (m c : Nat), p ≠ [] → TreeIn U P d f w t → RdS w A (p.map B) → p.length = m → m ≤ c → f ++ p ∈ P →
    Calls Tryd.prog 12 #[t, .slice A m c] w (fun e w' => e = .returned (.int .i64 (entN P (f ++ p))) ∧ Only (fun _ => False) w w')
  | 0, _, _, _, _, _, _, _, _, ht, _, _, _, _ => ht.elim
  | _ + 1, _, [], _, _, _, _, _, hp, _, _, _, _, _ => absurd rfl hp
  | d + 1, f, q :: p, w, t, A, m, c, _, ht, hA, hm, hc, hmem => find_step hP ht hA hm hc hmem fun u t' A' c' hp _ ht' hr hc' => by
    have e : (f ++ [q]) ++ p = f ++ q :: p := by simp
    have := fnd_any hP d (f ++ [q]) p u t' A' (m - 1) c' hp ht' hr (by rw [List.length_cons] at hm; omega) hc' (by rw [e]; exact hmem)
    rw [e] at this
    exact this
end Go.Proofs.YtihcdecdkpbpmaaDoor.Walks
