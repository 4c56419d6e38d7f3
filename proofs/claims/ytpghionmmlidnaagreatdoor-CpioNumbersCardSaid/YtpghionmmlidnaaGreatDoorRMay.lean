/- Contracts of the reference's target and May of entries. Contracts of the reference's Find, Hard, List. -/
import Derived.Test.YtpghionmmlidnaaGreatDoorRSame
import Derived.Test.YtpghionmmlidnaaGreatDoorRPath
import Derived.Test.YtpghionmmlidnaaGreatDoorOpen
import Derived.Test.YtpghionmmlidnaaGreatDoorLater
namespace Go.Proofs.YtpghionmmlidnaaGreatDoor.Walks
open Go Go.RowKit Go.Proofs.YtpghionmmlidnaaGreatDoor.Aid Go.Proofs.YtpghionmmlidnaaGreatDoor.Pth Go.Proofs.YtpghionmmlidnaaGreatDoor.Own Go.Proofs.YtpghionmmlidnaaGreatDoorW.PrintWords

def targetB (t : Str) : Bool := decide (t ≠ []) && (decide (t.length ≤ 4096) && noZ t)
theorem noZ_all {t : Str} (h : ∀ j, j < t.length → t.getD j 0 ≠ 0) : noZ t = true := by
  unfold noZ
  rw [decide_eq_true_eq]
  intro hm
  obtain ⟨j, hj, e⟩ := List.getElem_of_mem hm
  have := h j hj
  rw [List.getD_eq_getElem?_getD, List.getElem?_eq_getElem hj, Option.getD_some, e] at this
  exact this rfl
theorem noZ_bad {t : Str} {j : Nat} (hj : j < t.length) (h : t.getD j 0 = 0) : noZ t = false := by
  unfold noZ
  rw [decide_eq_false_iff_not, Decidable.not_not]
  rw [List.getD_eq_getElem?_getD, List.getElem?_eq_getElem hj, Option.getD_some] at h
  rw [← h]
  exact List.getElem_mem hj
set_option maxRecDepth 100000 in
set_option maxHeartbeats 4000000 in
theorem rtarget_any (t : Str) (w : World) (hs : t.length ≤ 500000) : Calls Tryz.prog 76 #[.string (B t)] w (fun x w' => x = .returned (.bool (targetB t)) ∧ w' = w) := by
  have hsz : (B t).size = t.length := B_size _
  have hdt : (B t).data.toList = t := B_data _
  obtain ⟨S, hS⟩ : ∃ S, B t = S := ⟨_, rfl⟩
  rw [hS] at hsz hdt ⊢
  have b0 : S.size ≤ 500000 := by omega
  have HS := Lib.hid (And.intro hsz hdt)
  clear hS hsz hdt hs
  go_enter Tryz.func76, Tryz.ntmps76
  go_wp2_with fail
  go_loopw [3] (fun v3 u => ∃ i : Nat, v3 = .int .i64 (i : Int) ∧ i ≤ S.size ∧ Hid (∀ j, j < i → t.getD j 0 ≠ 0) ∧ u = w) (fun i _ => S.size - (intOf i).toNat)
  case atStart => exact ⟨0, rfl, by omega, Lib.hid (fun j hj => absurd hj (by omega)), rfl⟩
  case round =>
    obtain ⟨i, rfl, hi, HN, rfl⟩ := hrel
    by_cases c1 : i < S.size
    · have d1 : decide ((i : Int) < (S.size : Int)) = true := decide_eq_true (by omega)
      have d1' : decide (i < S.size) = true := decide_eq_true c1
      have q4 : (i : Int) < (S.size : Int) := by omega
      have hxi := index_at c1
      rw [HS.out.2] at hxi
      obtain ⟨x, hxx⟩ : ∃ x, t.getD i 0 = x := ⟨_, rfl⟩
      rw [hxx] at hxi
      by_cases hz : x = 0
      · have e3 : ((x.toNat : Int) == 0) = true := by rw [hz]; rfl
        have HR0 := Lib.hid (show targetB t = false by unfold targetB; rw [noZ_bad (by rw [← HS.out.1]; exact c1) (hxx.trans hz), Bool.and_false, Bool.and_false])
        clear hz hxx
        go_wp2_with fail
        go_ret
        exact ⟨by rw [HR0.out]; rfl, by trivial⟩
      · have e3 : ((x.toNat : Int) == 0) = false := beq_eq_false_iff_ne.mpr (fun e => hz (UInt8.toNat.inj (by exact_mod_cast e)))
        have HN2 := Lib.hid (show ∀ j, j < i + 1 → t.getD j 0 ≠ 0 from fun j hj => by
          by_cases e : j = i
          · rw [e, hxx]; exact hz
          · exact HN.out j (by omega))
        clear hz hxx
        go_wp2_with fail
        exact ⟨⟨i + 1, by simp, by omega, HN2, by trivial⟩, by simp [intOf]; omega⟩
    · have d1 : decide ((i : Int) < (S.size : Int)) = false := decide_eq_false (by omega)
      have d1' : decide (i < S.size) = false := decide_eq_false c1
      have hZ := noZ_all (t := t) (fun j hj => HN.out j (by have := HS.out.1; omega))
      obtain ⟨k0, hk0⟩ : ∃ k : Bool, decide (S.size ≥ 1) = k := ⟨_, rfl⟩
      obtain ⟨k1, hk1⟩ : ∃ k : Bool, decide (S.size ≤ 4096) = k := ⟨_, rfl⟩
      have t0 : decide ((S.size : Int) ≥ 1) = k0 := by rw [← hk0]; exact decide_eq_decide.2 (by omega)
      have t1 : decide ((S.size : Int) ≤ 4096) = k1 := by rw [← hk1]; exact decide_eq_decide.2 (by omega)
      have HR0 := Lib.hid (show targetB t = (k0 && k1) by
        unfold targetB
        rw [hZ, ← hk0, ← hk1, HS.out.1, Bool.and_true]
        congr 1
        exact decide_eq_decide.2 (by rw [ne_eq, ← List.length_eq_zero_iff]; omega))
      clear hk0 hk1 hZ
      rcases way k0 (ways k1) with rfl | ⟨rfl, rfl | rfl⟩
      all_goals
        go_wp2_with fail
        go_ret
        exact ⟨by rw [HR0.out]; rfl, by trivial⟩
def tailE (E : Ent) : Bool :=
  if E.kind = 1 then decide (E.target = [])
  else if E.kind = 2 then decide (E.target = [])
  else if E.kind = 3 then targetB E.target
  else if E.kind = 4 then rightL E.target
  else false
theorem not_ge (x y : Int) : decide (y ≤ x) = !decide (x < y) := by
  by_cases h : x < y
  · rw [decide_eq_true h, decide_eq_false (by omega)]; rfl
  · rw [decide_eq_false h, decide_eq_true (by omega)]; rfl
theorem not_le (x y : Int) : decide (x ≤ y) = !decide (x > y) := not_ge y x
theorem may_chain (E : Ent) (hd : E.data.length ≤ 1000000) : mayL E = (rightL E.path && (!decide (E.mode < 0) && (!decide (E.mode > 4095) && (!decide (E.uid < 0) && (!decide (E.uid > 2147483647) && (!decide (E.gid < 0) && (!decide (E.gid > 2147483647) && (!((E.kind != 1) && decide (E.data.length > 0)) && tailE E)))))))) := by
  have h0 : bodyE E = (!((E.kind != 1) && decide (E.data.length > 0)) && tailE E) := by
    have hz : decide (E.data.length = 0) = !decide (E.data.length > 0) := by
      by_cases h : E.data.length = 0
      · rw [decide_eq_true h, decide_eq_false (by omega)]; rfl
      · rw [decide_eq_false h, decide_eq_true (by omega)]; rfl
    unfold bodyE tailE
    rw [hz]
    by_cases k1 : E.kind = 1
    · rw [if_pos k1, if_pos k1, k1, decide_eq_true (show E.data.length ≤ 1073741824 by omega), Bool.and_true]; rfl
    · rw [if_neg k1, if_neg k1, bne_iff_ne.mpr k1, Bool.true_and]
      by_cases k2 : E.kind = 2
      · rw [if_pos k2, if_pos k2, Bool.and_comm]
      · rw [if_neg k2, if_neg k2]
        by_cases k3 : E.kind = 3
        · rw [if_pos k3, if_pos k3]
          unfold targetB
          cases decide (E.target ≠ []) <;> cases decide (E.target.length ≤ 4096) <;> cases noZ E.target <;> cases decide (E.data.length > 0) <;> rfl
        · rw [if_neg k3, if_neg k3]
          by_cases k4 : E.kind = 4
          · rw [if_pos k4, if_pos k4, Bool.and_comm]
          · rw [if_neg k4, if_neg k4, Bool.and_false]
  unfold mayL headE idB
  rw [h0, not_ge E.mode 0, not_le E.mode, not_ge E.uid 0, not_le E.uid, not_ge E.gid 0, not_le E.gid]
  simp only [Bool.and_assoc]
set_option maxRecDepth 100000 in
set_option maxHeartbeats 4000000 in
theorem rmay_any (E : Ent) (A : Option Addr) (c : Nat) (w : World) (hE : EOk E) : Calls Tryz.prog 38 #[eval E A c] w (BoolPost (mayL E) w) := by
  have HO := Lib.hid ((Only.refl (fun _ => False) w).alloc (.cells (erow E A c) 47))
  have hb := alloc_new w (.cells (erow E A c) 47)
  obtain ⟨g1, hg1⟩ : ∃ g1, w.heap.size = g1 := ⟨_, rfl⟩
  obtain ⟨W, hW⟩ : ∃ W, w.alloc (.cells (erow E A c) 47) = W := ⟨_, rfl⟩
  rw [hW, hg1] at hb
  rw [hW] at HO
  have HGW := Lib.hid (And.intro hg1 hW)
  have c0 : W.cell? ⟨g1, 0, none⟩ = some (.string (B E.path)) := Joins.cell_of_block hb 0
  have HRW := Lib.hid (rright_any (B E.path) W (by rw [B_size]; exact hE.path))
  rw [B_data] at HRW
  have HT := Lib.hid (may_chain E hE.data)
  have HEt := Lib.hid hE.target
  have HB := Lib.hid hb
  obtain ⟨r, hr⟩ : ∃ r, rightL E.path = r := ⟨_, rfl⟩
  rw [hr] at HRW HT
  clear hr hg1 hW hb
  go_enter Tryz.func38, Tryz.ntmps38
  go_upto_region 1 with (fail)
  change Code.wp Tryz.prog _ _ _ (w.alloc (.cells (erow E A c) 47))
  rw [HGW.out.2, HGW.out.1]
  cases r with
  | false =>
    have HR0 := Lib.hid (show mayL E = false from HT.out.trans (by rw [Bool.false_and]))
    go_wp2_with (go_at_call 43; (with_reducible refine HRW.out.mono ?_); rintro x w1 ⟨rfl, h1⟩; have H1 := Lib.hid h1; clear h1)
    go_ret
    exact ⟨by rw [HR0.out]; rfl, HO.out.trans' H1.out⟩
  | true =>
    replace HT := Lib.hid (HT.out.trans (Bool.true_and _))
    go_wp2_with fail
    (with_reducible refine HRW.out.mono ?_)
    rintro x w1 ⟨rfl, h1⟩
    replace HO := Lib.hid (HO.out.trans' h1)
    have hb := h1.keeps HB.out id
    have c1 : w1.cell? ⟨g1, 1, none⟩ = some (.int .i64 E.kind) := Joins.cell_of_block hb 1
    have c2 : w1.cell? ⟨g1, 2, none⟩ = some (.int .i64 E.mode) := Joins.cell_of_block hb 2
    have c3 : w1.cell? ⟨g1, 3, none⟩ = some (.int .i64 E.uid) := Joins.cell_of_block hb 3
    have c4 : w1.cell? ⟨g1, 4, none⟩ = some (.int .i64 E.gid) := Joins.cell_of_block hb 4
    have c6 : w1.cell? ⟨g1, 6, none⟩ = some (.string (B E.target)) := Joins.cell_of_block hb 6
    have c7 : w1.cell? ⟨g1, 7, none⟩ = some (.slice A E.data.length c) := Joins.cell_of_block hb 7
    have hdl : E.data.length ≤ 1000000 := hE.data
    obtain ⟨m0, hm0⟩ : ∃ b : Bool, decide (E.mode < 0) = b := ⟨_, rfl⟩
    obtain ⟨m1, hm1⟩ : ∃ b : Bool, decide (E.mode > 4095) = b := ⟨_, rfl⟩
    obtain ⟨u0, hu0⟩ : ∃ b : Bool, decide (E.uid < 0) = b := ⟨_, rfl⟩
    obtain ⟨u1, hu1⟩ : ∃ b : Bool, decide (E.uid > 2147483647) = b := ⟨_, rfl⟩
    obtain ⟨i0, hi0⟩ : ∃ b : Bool, decide (E.gid < 0) = b := ⟨_, rfl⟩
    obtain ⟨i1, hi1⟩ : ∃ b : Bool, decide (E.gid > 2147483647) = b := ⟨_, rfl⟩
    obtain ⟨k, hk⟩ : ∃ b : Bool, (E.kind != 1) = b := ⟨_, rfl⟩
    obtain ⟨n, hn⟩ : ∃ n, E.data.length = n := ⟨_, rfl⟩
    rw [hn] at c7 hdl HT
    obtain ⟨d, hd⟩ : ∃ b : Bool, decide (n > 0) = b := ⟨_, rfl⟩
    have hd' : decide ((n : Int) > 0) = d := by rw [← hd]; exact decide_eq_decide.2 (by omega)
    have hx : decide ((n : Int) > 1073741824) = false := decide_eq_false (by omega)
    have hx' : decide (n > 1073741824) = false := decide_eq_false (by omega)
    rw [hm0, hm1, hu0, hu1, hi0, hi1, hk, hd] at HT
    clear HRW HB HGW c0 h1 hb hn
    clear W
    rcases wayT m0 (wayT m1 (wayT u0 (wayT u1 (wayT i0 (ways i1))))) with rfl | ⟨rfl, rfl | ⟨rfl, rfl | ⟨rfl, rfl | ⟨rfl, rfl | ⟨rfl, rfl | rfl⟩⟩⟩⟩⟩
    rotate_left 5
    · -- the head is well
      replace HT : Hid (mayL E = (!(k && d) && tailE E)) := Lib.hid HT.out
      rcases way k (wayT d True.intro) with rfl | ⟨rfl, rfl | ⟨rfl, _⟩⟩
      · -- a file
        have q1 : E.kind = 1 := by
          by_cases h : E.kind = 1
          · exact h
          · rw [bne_iff_ne.mpr h] at hk; cases hk
        have f1 : (E.kind == 1) = true := beq_iff_eq.mpr q1
        have hn1 : (B E.target).toList.isEmpty = decide (E.target = []) := isEmpty_B _
        have HR0 := Lib.hid (show mayL E = decide (E.target = []) from HT.out.trans (by unfold tailE; rw [if_pos q1]; rfl))
        obtain ⟨z, hz⟩ : ∃ b : Bool, decide (E.target = []) = b := ⟨_, rfl⟩
        rw [hz] at hn1 HR0
        clear hz HT q1
        go_wp2_with fail
        go_ret
        exact ⟨by rw [HR0.out]; rfl, HO.out⟩
      · have HR0 := Lib.hid (show mayL E = false from HT.out)
        go_wp2_with fail
        go_ret
        exact ⟨by rw [HR0.out]; rfl, HO.out⟩
      · have q1 : E.kind ≠ 1 := bne_iff_ne.mp hk
        have f1 : (E.kind == 1) = false := beq_eq_false_iff_ne.mpr q1
        replace HT : Hid (mayL E = tailE E) := Lib.hid HT.out
        by_cases q2 : E.kind = 2
        · have f2 : (E.kind == 2) = true := beq_iff_eq.mpr q2
          have hn1 : (B E.target).toList.isEmpty = decide (E.target = []) := isEmpty_B _
          have HR0 := Lib.hid (show mayL E = decide (E.target = []) from HT.out.trans (by unfold tailE; rw [if_neg q1, if_pos q2]))
          obtain ⟨z, hz⟩ : ∃ b : Bool, decide (E.target = []) = b := ⟨_, rfl⟩
          rw [hz] at hn1 HR0
          clear hz HT q1 q2
          go_wp2_with fail
          go_ret
          exact ⟨by rw [HR0.out]; rfl, HO.out⟩
        have f2 : (E.kind == 2) = false := beq_eq_false_iff_ne.mpr q2
        by_cases q3 : E.kind = 3
        · have f3 : (E.kind == 3) = true := beq_iff_eq.mpr q3
          have HR0 := Lib.hid (show mayL E = targetB E.target from HT.out.trans (by unfold tailE; rw [if_neg q1, if_neg q2, if_pos q3]))
          have HTa := Lib.hid (fun u => rtarget_any E.target u HEt.out)
          clear HT q1 q2 q3
          go_wp2_with (go_at_call 76; (with_reducible refine (HTa.out _).mono ?_); rintro x w2 ⟨rfl, rfl⟩)
          go_ret
          exact ⟨by rw [HR0.out]; rfl, HO.out⟩
        have f3 : (E.kind == 3) = false := beq_eq_false_iff_ne.mpr q3
        by_cases q4 : E.kind = 4
        · have f4 : (E.kind == 4) = true := beq_iff_eq.mpr q4
          have HR0 := Lib.hid (show mayL E = rightL E.target from HT.out.trans (by unfold tailE; rw [if_neg q1, if_neg q2, if_neg q3, if_pos q4]))
          have HTa := Lib.hid (rright_any (B E.target) w1 (by rw [B_size]; exact HEt.out))
          rw [B_data] at HTa
          clear HT q1 q2 q3 q4
          go_wp2_with (go_at_call 43; (with_reducible refine HTa.out.mono ?_); rintro x w2 ⟨rfl, h2⟩; have H2 := Lib.hid h2; clear h2)
          go_ret
          exact ⟨by rw [HR0.out]; rfl, HO.out.trans' H2.out⟩
        have f4 : (E.kind == 4) = false := beq_eq_false_iff_ne.mpr q4
        have HR0 := Lib.hid (show mayL E = false from HT.out.trans (by unfold tailE; rw [if_neg q1, if_neg q2, if_neg q3, if_neg q4]))
        clear HT q1 q2 q3 q4
        go_wp2_with fail
        go_ret
        exact ⟨by rw [HR0.out]; rfl, HO.out⟩
    all_goals
      have HR0 := Lib.hid (show mayL E = false from HT.out)
      go_wp2_with fail
      go_ret
      exact ⟨by rw [HR0.out]; rfl, HO.out⟩
end Go.Proofs.YtpghionmmlidnaaGreatDoor.Walks
namespace Go.Proofs.YtpghionmmlidnaaGreatDoor.Walks
open Go Go.RowKit Go.Proofs.YtpghionmmlidnaaGreatDoor.Aid Go.Proofs.YtpghionmmlidnaaGreatDoor.Pth Go.Proofs.YtpghionmmlidnaaGreatDoor.Own Go.Proofs.YtpghionmmlidnaaGreatDoorW.PrintWords

def findAt (l : List Ent) (t : Str) : Nat → Int
  | 0 => -1
  | k + 1 => if (l.getD k e0).path = t then (k : Int) else findAt l t k
def findL (l : List Ent) (t : Str) : Int := findAt l t l.length
theorem findAt_ge (l : List Ent) (t : Str) : ∀ k, -1 ≤ findAt l t k ∧ findAt l t k < k
  | 0 => by unfold findAt; omega
  | k + 1 => by
    have := findAt_ge l t k
    unfold findAt
    split <;> omega
theorem findAt_eq {l m : List Ent} (t : Str) : ∀ k, (∀ j, j < k → l.getD j e0 = m.getD j e0) → findAt l t k = findAt m t k
  | 0, _ => rfl
  | k + 1, h => by
    unfold findAt
    rw [h k (by omega), findAt_eq t k (fun j hj => h j (by omega))]
theorem lastKind_at (l : List Ent) (t : Str) : ∀ k, k ≤ l.length → lastKind (l.take k) t = if 0 ≤ findAt l t k then (l.getD (findAt l t k).toNat e0).kind else 0
  | 0, _ => by rw [List.take_zero]; rfl
  | k + 1, h => by
    have ih := lastKind_at l t k (by omega)
    have hs : l.take (k + 1) = l.take k ++ [l.getD k e0] := take_snoc (by omega) rfl
    have hk : lastKind (l.take (k + 1)) t = if (l.getD k e0).path = t then (l.getD k e0).kind else lastKind (l.take k) t := by
      rw [hs]; unfold lastKind; rw [List.foldl_append]; rfl
    rw [hk]
    by_cases c : (l.getD k e0).path = t
    · have e : findAt l t (k + 1) = (k : Int) := by unfold findAt; rw [if_pos c]
      rw [if_pos c, e, if_pos (by omega), Int.toNat_natCast]
    · have e : findAt l t (k + 1) = findAt l t k := by conv => lhs; unfold findAt
                                                       rw [if_neg c]
      rw [if_neg c, e, ih]
theorem lastKind_find (l : List Ent) (t : Str) : lastKind l t = if 0 ≤ findL l t then (l.getD (findL l t).toNat e0).kind else 0 := by
  have := lastKind_at l t l.length (Nat.le_refl _)
  rwa [List.take_length] at this
theorem RdE.take {w : World} {A : Option Addr} {l : List Ent} {M : Nat → Option Addr × Nat} (h : RdE w A l M) (k : Nat) : RdE w A (l.take k) M := fun i E hE => by
  rw [List.getElem?_take] at hE
  by_cases hi : i < k
  · rw [if_pos hi] at hE; exact h i E hE
  · rw [if_neg hi] at hE; cases hE
set_option maxRecDepth 100000 in
set_option maxHeartbeats 4000000 in
theorem rfind_any {w : World} {A : Option Addr} {l : List Ent} {n c : Nat} {M : Nat → Option Addr × Nat} (t : Str) (hn : l.length = n) (hl : n ≤ 100000) (hR : RdE w A l M) :
    Calls Tryz.prog 77 #[.slice A n c, .string (B t)] w (fun x w' => x = .returned (.int .i64 (findL l t)) ∧ w' = w) := by
  have HN := Lib.hid hn
  have HR := Lib.hid hR
  have b1 : n ≤ 100000 := hl
  have HT := Lib.hid (fun (s : Str) => str_eqB s t)
  obtain ⟨T, hT⟩ : ∃ T, B t = T := ⟨_, rfl⟩
  rw [hT] at HT ⊢
  clear hn hl hR hT
  go_enter Tryz.func77, Tryz.ntmps77
  go_wp2_with fail
  go_loopw [5] (fun v5 u => ∃ k : Nat, v5 = .int .i64 ((k : Int) - 1) ∧ k ≤ n ∧ u = w ∧ Hid (findL l t = findAt l t k)) (fun i _ => (intOf i + 1).toNat)
  case atStart => exact ⟨n, rfl, by omega, rfl, Lib.hid (by unfold findL; rw [HN.out])⟩
  case round =>
    obtain ⟨k, rfl, hk, rfl, HF⟩ := hrel
    by_cases ck : 0 < k
    · obtain ⟨i, rfl⟩ : ∃ i, k = i + 1 := ⟨k - 1, by omega⟩
      have ei : (((i + 1 : Nat) : Int) - 1) = (i : Int) := by omega
      rw [ei]
      have e1 : decide ((i : Int) ≥ 0) = true := decide_eq_true (by omega)
      have e2 : (i : Int) < (n : Int) := by omega
      have e3 : (0 : Int) ≤ (i : Int) := by omega
      obtain ⟨ad, rfl, hat, hen⟩ := HR.out.at (i := i) (by rw [HN.out]; omega)
      have x0 : wr.cell? (ad.add (i * 8)) = some (.string (B (l.getD i e0).path)) := by have := hat 0 _ rfl; rwa [show (ad.add (i * 8)).add 0 = ad.add (i * 8) from by rw [add_add]; rfl] at this
      have g0 := HT.out (l.getD i e0).path
      obtain ⟨p, hp⟩ : ∃ p, (l.getD i e0).path = p := ⟨_, rfl⟩
      have HFi := Lib.hid (show findL l t = if p = t then (i : Int) else findAt l t i by rw [HF.out, ← hp]; rfl)
      rw [hp] at x0 g0
      obtain ⟨S, hS⟩ : ∃ S, B p = S := ⟨_, rfl⟩
      rw [hS] at x0 g0
      by_cases q : p = t
      · rw [decide_eq_true q] at g0
        have HR0 := Lib.hid (HFi.out.trans (if_pos q))
        clear q hp HFi HF hat hen hS ei
        go_wp2_with fail
        go_ret
        exact ⟨by rw [HR0.out]; rfl, by trivial⟩
      · rw [decide_eq_false q] at g0
        have HF2 := Lib.hid (HFi.out.trans (if_neg q))
        clear q hp HFi HF hat hen hS ei
        go_wp2_with fail
        exact ⟨⟨i, by simp, by omega, by trivial, HF2⟩, by simp [intOf]⟩
    · obtain rfl : k = 0 := by omega
      have HR0 := Lib.hid (show findL l t = -1 from HF.out)
      rw [show (((0 : Nat) : Int) - 1) = -1 from rfl]
      go_wp2_with fail
      go_ret
      exact ⟨by rw [HR0.out]; rfl, by trivial⟩
set_option maxRecDepth 100000 in
set_option maxHeartbeats 4000000 in
theorem rhard_any {w : World} {A : Option Addr} {l : List Ent} {n c : Nat} {M : Nat → Option Addr × Nat} (t : Str) (hn : l.length = n) (hl : n ≤ 100000) (hR : RdE w A l M) :
    Calls Tryz.prog 39 #[.slice A n c, .string (B t)] w (fun x w' => x = .returned (.bool (decide (lastKind l t = 1))) ∧ w' = w) := by
  have HF := Lib.hid (rfind_any (c := c) t hn hl hR)
  have HK := Lib.hid (lastKind_find l t)
  have hge := findAt_ge l t l.length
  rw [show findAt l t l.length = findL l t from rfl] at hge
  obtain ⟨T, hT⟩ : ∃ T, B t = T := ⟨_, rfl⟩
  rw [hT] at HF ⊢
  obtain ⟨k, hk⟩ : ∃ k, findL l t = k := ⟨_, rfl⟩
  rw [hk] at HF HK hge
  have HR := Lib.hid hR
  have HN := Lib.hid hn
  clear hk hT hR
  by_cases q : 0 ≤ k
  · obtain ⟨i, rfl⟩ : ∃ i : Nat, k = (i : Int) := ⟨k.toNat, by omega⟩
    have hi : i < l.length := by omega
    have e1 : decide ((i : Int) ≥ 0) = true := decide_eq_true (by omega)
    have e2 : (i : Int) < (n : Int) := by omega
    have e3 : (0 : Int) ≤ (i : Int) := by omega
    have b1 : n ≤ 100000 := hl
    obtain ⟨ad, rfl, hat, hen⟩ := HR.out.at hi
    have x1 : w.cell? ⟨(ad.add (i * 8)).block, (ad.add (i * 8)).off + 1, none⟩ = some (.int .i64 (l.getD i e0).kind) := by have := hat 1 _ rfl; rwa [add_add, Aid.add_field _ _ _ (by decide)] at this
    have g1 := int_eqd (l.getD i e0).kind 1
    have HR0 := Lib.hid (show decide (lastKind l t = 1) = decide ((l.getD i e0).kind = 1) by rw [HK.out, if_pos q, Int.toNat_natCast])
    obtain ⟨y, hy⟩ : ∃ y, (l.getD i e0).kind = y := ⟨_, rfl⟩
    rw [hy] at x1 g1 HR0
    obtain ⟨b, hb⟩ : ∃ b : Bool, decide (y = 1) = b := ⟨_, rfl⟩
    rw [hb] at g1 HR0
    clear hb hy hat hen hi q hge HK hn hl
    go_enter Tryz.func39, Tryz.ntmps39
    go_wp2_with (go_at_call 77; (with_reducible refine HF.out.mono ?_); rintro x w1 ⟨rfl, rfl⟩)
    go_ret
    exact ⟨by rw [HR0.out]; rfl, rfl⟩
  · have e1 : decide (k ≥ 0) = false := decide_eq_false (by omega)
    have HR0 := Lib.hid (show decide (lastKind l t = 1) = false by rw [HK.out, if_neg q]; rfl)
    clear q hge HK hn hl
    go_enter Tryz.func39, Tryz.ntmps39
    go_wp2_with (go_at_call 77; (with_reducible refine HF.out.mono ?_); rintro x w1 ⟨rfl, rfl⟩)
    go_ret
    exact ⟨by rw [HR0.out]; rfl, rfl⟩
attribute [-go_sem] loadVar
attribute [local go_sem] lv9 lv3
set_option maxRecDepth 100000 in
set_option maxHeartbeats 4000000 in
theorem rlist_any {w : World} {A : Option Addr} {l : List Ent} {n c : Nat} {M : Nat → Option Addr × Nat} (hn : l.length = n) (hl : n ≤ 100000) (hc : n ≤ c) (hR : RdE w A l M) (hE : EsOk l) :
    Calls Tryz.prog 21 #[.slice A n c] w fun x w' => x = .returned (.int .i64 (listL l)) ∧ Only (fun _ => False) w w' := by
  have HN := Lib.hid hn
  have HR := Lib.hid hR
  have HE := Lib.hid hE
  have b1 : n ≤ 100000 := hl
  have b2 : n ≤ c := hc
  clear hn hl hR hE hc
  go_enter Tryz.func21, Tryz.ntmps21
  go_wp2_with fail
  go_loopw [3] (fun v3 u => ∃ i : Nat, v3 = .int .i64 (i : Int) ∧ i ≤ n ∧ Hid (Only (fun _ => False) w u) ∧ Hid (∀ j, j < i → listAt (l.take j) (l.getD j e0) = true)) (fun i _ => n - (intOf i).toNat)
  case atStart => exact ⟨0, rfl, by omega, Lib.hid (Only.refl _ _), Lib.hid (fun j h => absurd h (by omega))⟩
  case round =>
    obtain ⟨i, rfl, hi, HU, HAll⟩ := hrel
    by_cases ci : i < n
    · have e1 : decide ((i : Int) < (n : Int)) = true := decide_eq_true (by omega)
      have e1' : decide (i < n) = true := decide_eq_true ci
      have e2 : (i : Int) < (n : Int) := by omega
      have e4 : i ≤ c := by omega
      have hil : i < l.length := by rw [HN.out]; exact ci
      have HRw := HR.out.only HU.out
      obtain ⟨ad, rfl, hat, hen⟩ := HRw.at hil
      have hEm : l.getD i e0 ∈ l := by rw [List.getD_eq_getElem?_getD, List.getElem?_eq_getElem hil]; exact List.getElem_mem hil
      have hEo := (HE.out _ hEm).1
      have HMy := Lib.hid (fun u => rmay_any (l.getD i e0) (M i).1 (M i).2 u hEo)
      have HHd := Lib.hid (fun u (h : Only (fun _ => False) wr u) => rhard_any (c := c) (l.getD i e0).target (show (l.take i).length = i by rw [List.length_take]; omega) (by omega) ((HRw.take i).only h))
      have HS := Lib.hid (fun (h : listAt (l.take i) (l.getD i e0) = true) (j : Nat) (hj : j < i + 1) => show listAt (l.take j) (l.getD j e0) = true from by
        by_cases e : j = i
        · rw [e]; exact h
        · exact HAll.out j (by omega))
      have HBad := Lib.hid (fun (h : listAt (l.take i) (l.getD i e0) = false) => list_stop hil h HAll.out)
      have HY := Lib.hid (show listAt (l.take i) (l.getD i e0) = (mayL (l.getD i e0) && !(decide ((l.getD i e0).kind = 4) && !decide (lastKind (l.take i) (l.getD i e0).target = 1))) by unfold listAt; simp only [ne_eq, decide_not])
      obtain ⟨E, hE⟩ : ∃ E, l.getD i e0 = E := ⟨_, rfl⟩
      obtain ⟨B1, hB1⟩ : ∃ B1, (M i).1 = B1 := ⟨_, rfl⟩
      obtain ⟨k1, hk1⟩ : ∃ k1, (M i).2 = k1 := ⟨_, rfl⟩
      rw [hE, hB1, hk1] at hat HMy
      rw [hE] at HHd HS HBad HY
      have x1 : wr.cell? ⟨(ad.add (i * 8)).block, (ad.add (i * 8)).off + 1, none⟩ = some (.int .i64 E.kind) := by have := hat 1 _ rfl; rwa [add_add, Aid.add_field _ _ _ (by decide)] at this
      have x6 : wr.cell? ⟨(ad.add (i * 8)).block, (ad.add (i * 8)).off + 6, none⟩ = some (.string (B E.target)) := by have := hat 6 _ rfl; rwa [add_add, Aid.add_field _ _ _ (by decide)] at this
      have g4 := int_eqd E.kind 4
      obtain ⟨my, hmy⟩ : ∃ b, mayL E = b := ⟨_, rfl⟩
      obtain ⟨k4, hk4⟩ : ∃ b : Bool, decide (E.kind = 4) = b := ⟨_, rfl⟩
      obtain ⟨hd, hhd⟩ : ∃ b : Bool, decide (lastKind (l.take i) E.target = 1) = b := ⟨_, rfl⟩
      rw [hmy] at HMy HY
      rw [hk4] at g4 HY
      rw [hhd] at HHd HY
      have hl1 : ∀ x : Later wr, (loadVar 47 (ad.add (i * 8))).run Tryz.prog x.w = .ok (eval E B1 k1) x.w := fun x => (hat.only x.h).load
      have hl2 : ∀ x : Later wr, x.w.cell? ⟨(ad.add (i * 8)).block, (ad.add (i * 8)).off + 1, none⟩ = some (.int .i64 E.kind) := fun x => x.h.cell x1 id
      have hl3 : ∀ x : Later wr, x.w.cell? ⟨(ad.add (i * 8)).block, (ad.add (i * 8)).off + 6, none⟩ = some (.string (B E.target)) := fun x => x.h.cell x6 id
      clear hE hB1 hk1 hmy hk4 hhd hat hen hEm hEo HAll HRw HR x1 x6 hil
      rcases way my (way k4 (ways hd)) with rfl | ⟨rfl, rfl | ⟨rfl, rfl | rfl⟩⟩
      case' inl => have HR0 := Lib.hid (HBad.out HY.out)
      case' inr.inl => have HGo := Lib.hid (HS.out HY.out)
      case' inr.inr.inl => have HR0 := Lib.hid (HBad.out HY.out)
      case' inr.inr.inr => have HGo := Lib.hid (HS.out HY.out)
      all_goals
        go_upto_region 4 with (fail)
        refine wp_region_later (by kernel_rfl) (by kernel_rfl) ?_
        repeat (go_big_quiet_step ((first
          | (go_at_call 38; exact Calls.later (HMy.out _))
          | (go_at_call 39; exact Calls.laterSame (HHd.out _ (Later.h _))))))
        refine wpQuiet_nil ?_
        rintro _ ⟨⟨u, hu⟩, rfl⟩
        go_wp2_with fail
        first
          | exact ⟨⟨i + 1, by simp, by omega, Lib.hid (HU.out.trans' hu), HGo⟩, by simp [intOf]; omega⟩
          | (go_ret; exact ⟨by rw [HR0.out]; rfl, HU.out.trans' hu⟩)
    · have d1 : decide ((i : Int) < (n : Int)) = false := decide_eq_false (by omega)
      have d1' : decide (i < n) = false := decide_eq_false ci
      obtain rfl : i = n := by omega
      have HR0 := Lib.hid (list_all (fun j hj => HAll.out j (by rw [← HN.out]; exact hj)))
      go_wp2_with fail
      go_ret
      exact ⟨by rw [HR0.out]; rfl, HU.out⟩
end Go.Proofs.YtpghionmmlidnaaGreatDoor.Walks
