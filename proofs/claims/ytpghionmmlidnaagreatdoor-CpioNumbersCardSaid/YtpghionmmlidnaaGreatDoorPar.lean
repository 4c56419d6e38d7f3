/- Contract of the parser's next. Contracts of Parse's deferred closure: of a call that returns, and of one that panics with a fault. Contract of cpio.record. Contract of cpio.Inodes. Contract of cpio.Parse. -/
import Derived.Test.YtpghionmmlidnaaGreatDoorPdt
import Derived.Defers
import Derived.Recover
import Derived.Test.YtpghionmmlidnaaGreatDoorHexR
import Derived.Test.YtpghionmmlidnaaGreatDoorOwnJ
import Derived.Deep.MidRow
import Derived.Test.YtpghionmmlidnaaGreatDoorLst
namespace Go.Proofs.YtpghionmmlidnaaGreatDoor.Walks
open Go Go.RowKit Go.Maps Go.Proofs.YtpghionmmlidnaaGreatDoor.Aid Go.Proofs.YtpghionmmlidnaaGreatDoor.Pth Go.Proofs.YtpghionmmlidnaaGreatDoor.Own Go.Proofs.YtpghionmmlidnaaGreatDoorW.PrintWords

theorem strE_lit (t : Str) (l : List UInt8) : ((B t).toList == l) = decide (t = l) := by rw [toList_B, beq_decide]
theorem hexL_8 {s : Str} (h : s.length = 8) : hexL s = hexGo 0 s := by unfold hexL; rw [if_pos h]
/-- The numbers read so far. -/
def NumsTo (b : Str) (p i : Nat) (xs : List Nat) : Prop := xs.length = i ∧ (∀ x ∈ xs, x ≤ 4294967295) ∧ numsAt b p 13 = match numsAt b (p + 8 * i) (13 - i) with | none => none | some r => some (xs ++ r)
theorem numsTo_next {b : Str} {p i : Nat} {xs : List Nat} (h : NumsTo b p i xs) (hi : i < 13) : numsAt b p 13 = if b.length < p + 8 * i + 8 then none else match hexL ((b.drop (p + 8 * i)).take 8) with
    | none => none
    | some x => match numsAt b (p + 8 * (i + 1)) (13 - (i + 1)) with | none => none | some r => some ((xs ++ [x]) ++ r) := by
  rw [h.2.2]
  obtain ⟨m, hm⟩ : ∃ m, 13 - i = m + 1 := ⟨12 - i, by omega⟩
  rw [hm, show 13 - (i + 1) = m by omega, numsAt, show p + 8 * i + 8 = p + 8 * (i + 1) by omega]
  by_cases c : b.length < p + 8 * (i + 1)
  · rw [if_pos c, if_pos c]
  · rw [if_neg c, if_neg c]
    cases hexL ((b.drop (p + 8 * i)).take 8) with
    | none => rfl
    | some x =>
      dsimp only
      cases numsAt b (p + 8 * (i + 1)) m with
      | none => rfl
      | some r => dsimp only; rw [List.append_assoc]; rfl
theorem arrN_set (xs : List Nat) (i x : Nat) : (arrN xs).setIfInBounds i (.int .i64 (x : Int)) = arrN (xs.set i x) := by
  unfold arrN
  rw [List.map_set]
  simp
theorem put_none (a : Act) (v : Value) : a.put none v = a := rfl
theorem addr0 (g j : Nat) : (⟨g, 0, none⟩ : Addr).add j = ⟨g, j, none⟩ := by unfold Addr.add; split <;> simp_all
theorem size57' : (Tryz.prog.info? 57).map (·.size) = some 13 := by kernel_rfl
theorem arrN_size (xs : List Nat) : (arrN xs).size = xs.length := by unfold arrN; simp
theorem set_pad {xs : List Nat} {i x : Nat} (h : xs.length = i) (hi : i < 13) : (xs ++ List.replicate (13 - i) 0).set i x = (xs ++ [x]) ++ List.replicate (13 - (i + 1)) 0 := by
  subst h
  rw [List.set_append_right _ _ (Nat.le_refl _), Nat.sub_self, show 13 - xs.length = (13 - (xs.length + 1)) + 1 by omega, List.replicate_succ, List.set_cons_zero, List.append_assoc]
  rfl
attribute [-go_sem] loadVar
attribute [-go_sem] Builtin.append_
attribute [local go_sem] lv69 lv61 lv22 lv4 lv65 lv3 lv9 lvB
set_option maxRecDepth 100000 in
set_option maxHeartbeats 8000000 in
theorem next_any {K : PK} {st : PS} {outV : Value} {es : List Ent3} {cg ck : Nat} {ow : Int} {u : World} (hK : K.Ok) (h : PX K st outV es cg ck ow u) (hGI : GI st cg) : Calls Tryz.prog 34 #[.pointer (some ⟨K.g, 0, none⟩)] u (NextPost K st) := by
  have HK := Lib.hid hK
  have HX := Lib.hid h
  have HGI := Lib.hid hGI
  have HLen := Lib.hid (show st.out.length ≤ 500000 ∧ st.out.length ≤ st.pos by have h1 := h.cnt; have h2 := h.pos; have h3 := hK.nl; omega)
  have HErr := Lib.hid (fun c (hc : nextL K.b K.lim st = .error c) v (hv : Only (fun _ => False) K.w0 v) => show NextPost K st (.panicked (faultC c)) v from by unfold NextPost; rw [hc]; exact ⟨rfl, hv⟩)
  have HEnd := Lib.hid (fun (hc : nextL K.b K.lim st = .ok none) st' outV es cg ck ow v (h1 : st'.out = st.out) (hv : PX K st' outV es cg ck ow v) => show NextPost K st (.returned (.bool false)) v from by unfold NextPost; rw [hc]; exact ⟨rfl, _, _, _, _, _, _, h1, hv⟩)
  have HOk := Lib.hid (fun st' (hc : nextL K.b K.lim st = .ok (some st')) outV es cg ck ow v (hv : PX K st' outV es cg ck ow v) (hw : GI st' cg) => show NextPost K st (.returned (.bool true)) v from by unfold NextPost; rw [hc]; exact ⟨rfl, _, _, _, _, _, hv, hw⟩)
  obtain ⟨R, hR⟩ : ∃ R, nextL K.b K.lim st = R := ⟨_, rfl⟩
  obtain ⟨Post, hPost⟩ : ∃ Post, NextPost K st = Post := ⟨_, rfl⟩
  obtain ⟨n, hn⟩ : ∃ n, K.n = n := ⟨_, rfl⟩
  obtain ⟨p, hp⟩ : ∃ p, st.pos = p := ⟨_, rfl⟩
  have HN := Lib.hid (show K.b.length = n by rw [hK.len, hn])
  have HNk := Lib.hid hn
  have HP := Lib.hid hp
  have HNx := Lib.hid hR
  rw [hPost, hR] at HErr HEnd HOk
  rw [hPost]
  unfold nextL at hR
  rw [hp, HN.out] at hR
  have HR := Lib.hid hR
  clear hPost hR hn hp hK h hGI
  go_enter Tryz.func34, Tryz.ntmps34
  by_cases c1 : n < p + 6
  · have HT := Lib.hid (take_px_no HK.out HX.out 6 (by rw [HNk.out, HP.out]; exact c1))
    have HF := Lib.hid (fun v h => HErr.out 2 (HR.out.symm.trans (if_pos c1)) v h)
    clear c1
    go_wp2_with (go_at_call 65; refine HT.out.mono ?_; rintro e w9 ⟨rfl, h9⟩; have H9 := Lib.hid h9; clear h9)
    exact ⟨rfl, HF.out _ H9.out⟩
  have HT := Lib.hid (take_px HK.out HX.out 6 (by rw [HNk.out, HP.out]; omega))
  replace HR := Lib.hid ((if_neg c1).symm.trans HR.out)
  have HC1 := Lib.hid c1
  clear c1
  rw [HP.out] at HT
  obtain ⟨T6, hT6⟩ : ∃ T6, (K.b.drop p).take 6 = T6 := ⟨_, rfl⟩
  have HL6 := Lib.hid (show T6.length = 6 by rw [← hT6, List.length_take, List.length_drop, HN.out]; have := HC1.out; omega)
  rw [hT6] at HT HR
  have hT6q := strE_lit T6 [48, 55, 48, 55, 48, 49]
  clear hT6
  by_cases c2 : T6 ≠ [48, 55, 48, 55, 48, 49]
  · rw [decide_eq_false c2] at hT6q
    have HF := Lib.hid (fun v h => HErr.out 2 (HR.out.symm.trans (if_pos c2)) v h)
    clear c2
    go_upto_region 1 with (fail)
    go_wp2_with (first
      | (go_at_call 65; refine HT.out.mono ?_; rintro e w9 ⟨A6, rfl, hr6, h61, hx6, h62⟩; have HX6 := Lib.hid hx6; have hcv := str_u (K.c - p) hr6 HL6.out; clear hr6 hx6 h61 h62)
      | (go_at_call 64; refine (must_f ?hc _).mono ?_; (case hc => first | rfl | assumption); rintro e w8 ⟨rfl, rfl⟩))
    exact ⟨rfl, HF.out _ HX6.out.only⟩
  rw [decide_eq_true (Classical.not_not.1 c2)] at hT6q
  replace HR := Lib.hid ((if_neg c2).symm.trans HR.out)
  clear c2
  go_upto_region 2 with (first
      | (go_at_call 65; refine HT.out.mono ?_; rintro e w9 ⟨A6, rfl, hr6, h61, hx6, h62⟩; have HX6 := Lib.hid hx6; have hcv := str_u (K.c - p) hr6 HL6.out; clear hr6 hx6 h61 h62)
      | (go_at_call 64; refine (must_t ?hc _).mono ?_; (case hc => first | rfl | assumption); rintro e w8 ⟨rfl, rfl⟩))
  obtain ⟨C6, hC6⟩ : ∃ C6, K.c - p = C6 := ⟨_, rfl⟩
  rw [hC6] at hcv ⊢
  clear hC6 HT hcv hT6q HL6
  go_upto_region 3 with (fail)
  have hza : (#[.int .i64 0, .int .i64 0, .int .i64 0, .int .i64 0, .int .i64 0, .int .i64 0, .int .i64 0, .int .i64 0, .int .i64 0, .int .i64 0, .int .i64 0, .int .i64 0, .int .i64 0] : Array Value) = arrN (List.replicate 13 0) := rfl
  rw [hza]
  have hoa := (Only.refl (fun _ => False) w9).alloc (.cells (arrN (List.replicate 13 0)) 57)
  have hba := alloc_new w9 (.cells (arrN (List.replicate 13 0)) 57)
  have HXa := Lib.hid (HX6.out.step hoa)
  have HFa := Lib.hid (HX6.out.fresh (Nat.le_refl _))
  have HGa := Lib.hid (HX6.out.siz)
  obtain ⟨W, hW⟩ : ∃ W, w9.alloc (.cells (arrN (List.replicate 13 0)) 57) = W := ⟨_, rfl⟩
  obtain ⟨ga, hga⟩ : ∃ ga, w9.heap.size = ga := ⟨_, rfl⟩
  rw [hW, hga] at hba
  rw [hga] at HFa HGa
  rw [hW] at HXa
  rw [hW, hga]
  have HBa := Lib.hid hba
  clear hza hoa hba hW hga HX6
  clear w9
  go_wp2_with fail
  go_loopw [17] (fun v17 u => ∃ (i : Nat) (xs : List Nat), v17 = .int .i64 (i : Int) ∧ i ≤ 13 ∧ Hid (NumsTo K.b (p + 6) i xs) ∧ Hid (u.heap[ga]? = some (.cells (arrN (xs ++ List.replicate (13 - i) 0)) 57 (0, 0))) ∧ Hid (PX K { st with pos := p + 6 + 8 * i } outV es cg ck ow u)) (fun i _ => 13 - (intOf i).toNat)
  case atStart => exact ⟨0, [], rfl, by omega, Lib.hid ⟨rfl, fun x h => (by cases h), by rw [Nat.mul_zero, Nat.add_zero]; cases numsAt K.b (p + 6) (13 - 0) <;> rfl⟩, Lib.hid HBa.out, Lib.hid HXa.out⟩
  case round =>
    clear HBa HXa
    obtain ⟨i, xs, rfl, hi, HNs, HBa, HXa⟩ := hrel
    by_cases ci : i < 13
    · have d1 : decide ((i : Int) < 13) = true := decide_eq_true (by omega)
      have d2 : (i : Int) < 13 := by omega
      have d3 : i < 13 := ci
      have HNn := Lib.hid (numsTo_next HNs.out ci)
      by_cases c3 : n < p + 6 + 8 * i + 8
      · have HT := Lib.hid (take_px_no HK.out HXa.out 8 (by rw [HNk.out]; exact c3))
        have HF := Lib.hid (fun v h => HErr.out 2 (HR.out.symm.trans (by rw [HNn.out, if_pos (by rw [HN.out]; exact c3)])) v h)
        clear c3
        go_wp2_with (go_at_call 65; refine HT.out.mono ?_; rintro e w9 ⟨rfl, h9⟩; have H9 := Lib.hid h9; clear h9)
        exact ⟨rfl, HF.out _ H9.out⟩
      have HT := Lib.hid (take_px HK.out HXa.out 8 (by rw [HNk.out]; show p + 6 + 8 * i + 8 ≤ n; omega))
      replace HNn := Lib.hid (HNn.out.trans (if_neg (by rw [HN.out]; exact c3)))
      obtain ⟨q, hq⟩ : ∃ q, p + 6 + 8 * i = q := ⟨_, rfl⟩
      have HQ := Lib.hid hq
      rw [hq] at HT HNn
      obtain ⟨T8, hT8⟩ : ∃ T8, (K.b.drop q).take 8 = T8 := ⟨_, rfl⟩
      have HL8 := Lib.hid (show T8.length = 8 by rw [← hT8, List.length_take, List.length_drop, HN.out]; omega)
      rw [hT8] at HT HNn
      have HHx := Lib.hid (fun v => hex_any (B T8) v (by rw [B_size, HL8.out]; omega))
      rw [B_data] at HHx
      obtain ⟨C8, hC8⟩ : ∃ C8, K.c - q = C8 := ⟨_, rfl⟩
      rw [hC8] at HT
      clear hT8 hq hC8 c3 ci
      cases hx : hexL T8 with
      | none =>
        have HF := Lib.hid (fun v h => HErr.out 2 (HR.out.symm.trans (by rw [HNn.out, hx])) v h)
        have HH := Lib.hid (fun v => (HHx.out v).mono (show ∀ e w', HexPost T8 v e w' → e = .returned (.tuple #[.int .i64 0, .int .i64 2]) ∧ v = w' from fun e w' hp => by unfold HexPost at hp; rw [hx] at hp; exact ⟨hp.1, hp.2.symm⟩))
        clear hx
        go_wp2_with (first
          | (go_at_call 65; refine HT.out.mono ?_; rintro e w9 ⟨A8, rfl, hr8, h81, hx8, h82⟩; have HX8 := Lib.hid hx8; have hcv := str_u C8 hr8 HL8.out; clear hr8 hx8 h81 h82)
          | (go_at_call 66; refine (HH.out _).mono ?_; rintro e w8 ⟨rfl, rfl⟩)
          | (go_at_call 64; refine (must_f ?hc _).mono ?_; (case hc => first | rfl | assumption); rintro e w8 ⟨rfl, rfl⟩))
        exact ⟨rfl, HF.out _ HX8.out.only⟩
      | some x =>
        have HH := Lib.hid (fun v => (HHx.out v).mono (show ∀ e w', HexPost T8 v e w' → e = .returned (.tuple #[.int .i64 (x : Int), .int .i64 0]) ∧ v = w' from fun e w' hp => by unfold HexPost at hp; rw [hx] at hp; exact ⟨hp.1, hp.2.symm⟩))
        have HNu := Lib.hid (show NumsTo K.b (p + 6) (i + 1) (xs ++ [x]) from ⟨by rw [List.length_append, HNs.out.1]; rfl, fun y hy => by
          rcases List.mem_append.1 hy with h | h
          · exact HNs.out.2.1 y h
          · rw [List.mem_singleton.1 h]; exact hexL_lt hx, by rw [HNn.out, hx]⟩)
        clear hx
        go_upto_region 8 with (first
          | (go_at_call 65; refine HT.out.mono ?_; rintro e w9 ⟨A8, rfl, hr8, h81, hx8, h82⟩; have HX8 := Lib.hid hx8; have hcv := str_u C8 hr8 HL8.out; have HB8 := Lib.hid (h82.keeps HBa.out (by have := HK.out.low; have := HGa.out; omega)); clear hr8 hx8 h81 h82)
          | (go_at_call 66; refine (HH.out _).mono ?_; rintro e w8 ⟨rfl, rfl⟩)
          | (go_at_call 64; refine (must_t ?hc _).mono ?_; (case hc => first | rfl | assumption); rintro e w8 ⟨rfl, rfl⟩))
        have oi : w9.cell? ⟨ga, i, none⟩ = some (.int .i64 (((xs ++ List.replicate (13 - i) 0).getD i 0 : Nat) : Int)) := (Joins.cell_of_block HB8.out i).trans (arrN_get (by rw [List.length_append, HNs.out.1, List.length_replicate]; omega))
        have fi := frozen_of_row w9 ga i _ _ HB8.out
        obtain ⟨oy, hoy⟩ : ∃ oy, (xs ++ List.replicate (13 - i) 0).getD i 0 = oy := ⟨_, rfl⟩
        rw [hoy] at oi
        have HB9 := Lib.hid (show (w9.setCell ⟨ga, i, none⟩ (.int .i64 (x : Int))).heap[ga]? = some (.cells (arrN ((xs ++ [x]) ++ List.replicate (13 - (i + 1)) 0)) 57 (0, 0)) from by
          rw [heap_setCell_same w9 ga i _ _ (.int .i64 (x : Int)) HB8.out, arrN_set, set_pad HNs.out.1 d3])
        have HX9 := Lib.hid (show PX K { st with pos := p + 6 + 8 * (i + 1) } outV es cg ck ow (w9.setCell ⟨ga, i, none⟩ (.int .i64 (x : Int))) from by
          have := HX8.out.set HK.out HGa.out HFa.out i (.int .i64 (x : Int))
          rw [show p + 6 + 8 * (i + 1) = q + 8 by rw [← HQ.out]; omega]
          rw [← HQ.out] at this ⊢
          exact this)
        clear hoy HB8 HX8 hcv
        go_wp2_with fail
        exact ⟨⟨i + 1, xs ++ [x], by simp, by omega, HNu, HB9, HX9⟩, by simp [intOf]; omega⟩
    · obtain rfl : i = 13 := by omega
      have d1 : decide (((13 : Nat) : Int) < 13) = false := by decide
      rw [show ((13 : Nat) : Int) = 13 from rfl]
      have HNo := Lib.hid (show NumOk xs from ⟨HNs.out.1, HNs.out.2.1⟩)
      have HBb := Lib.hid (show wr.heap[ga]? = some (.cells (arrN xs) 57 (0, 0)) from by have := HBa.out; rwa [Nat.sub_self, List.replicate_zero, List.append_nil] at this)
      have HXb := Lib.hid (show PX K { st with pos := p + 110 } outV es cg ck ow wr from by have := HXa.out; rwa [show p + 6 + 8 * 13 = p + 110 by omega] at this)
      replace HR := Lib.hid ((show _ = _ from by rw [show numsAt K.b (p + 6) 13 = some xs by rw [HNs.out.2.2, Nat.sub_self, numsAt]; dsimp only; rw [List.append_nil]]).symm.trans HR.out)
      clear HNs HBa HXa d1 hi
      go_upto_region 10 with (fail)
      obtain ⟨x11, hx11⟩ : ∃ x, xs.getD 11 0 = x := ⟨_, rfl⟩
      have b11 := HNo.out.at 11
      have c11 := (Joins.cell_of_block HBb.out 11).trans (arrN_get (ns := xs) (i := 11) (by rw [HNo.out.1]; decide))
      rw [hx11] at b11 c11
      dsimp only at HR
      rw [hx11] at HR
      have HX11 := Lib.hid hx11
      clear hx11
      by_cases k1 : 2 ≤ x11
      case neg =>
        have d7 := (show decide ((x11 : Int) ≥ 2) = false from decide_eq_false (by omega))
        have d7' := (show decide (2 ≤ x11) = false from decide_eq_false k1)
        have HF := Lib.hid (fun v h => HErr.out 2 (HR.out.symm.trans (if_pos k1)) v h)
        clear k1
        go_wp2_with (go_at_call 64; refine (must_f ?hc _).mono ?_; (case hc => first | rfl | assumption); rintro e w8 ⟨rfl, rfl⟩)
        exact ⟨rfl, HF.out _ HXb.out.only⟩
      have dk1 := (show decide ((x11 : Int) ≥ 2) = true from decide_eq_true (by omega))
      have dk1' := (show decide (2 ≤ x11) = true from decide_eq_true k1)
      replace HR := Lib.hid ((if_neg (fun h => h k1)).symm.trans HR.out)
      have HKk1 := Lib.hid k1
      clear k1
      by_cases k2 : x11 ≤ 65536
      case neg =>
        have d7 := (show decide ((x11 : Int) ≤ 65536) = false from decide_eq_false (by omega))
        have d7' := (show decide (x11 ≤ 65536) = false from decide_eq_false k2)
        have HF := Lib.hid (fun v h => HErr.out 2 (HR.out.symm.trans (if_pos k2)) v h)
        clear k2
        go_wp2_with (go_at_call 64; refine (must_f ?hc _).mono ?_; (case hc => first | rfl | assumption); rintro e w8 ⟨rfl, rfl⟩)
        exact ⟨rfl, HF.out _ HXb.out.only⟩
      have dk2 := (show decide ((x11 : Int) ≤ 65536) = true from decide_eq_true (by omega))
      have dk2' := (show decide (x11 ≤ 65536) = true from decide_eq_true k2)
      replace HR := Lib.hid ((if_neg (fun h => h k2)).symm.trans HR.out)
      have HKk2 := Lib.hid k2
      clear k2
      by_cases c4 : n < p + 110 + x11
      case pos =>
        have HT := Lib.hid (take_px_no HK.out HXb.out x11 (by rw [HNk.out]; exact c4))
        have HF := Lib.hid (fun v h => HErr.out 2 (HR.out.symm.trans (if_pos c4)) v h)
        clear c4
        go_wp2_with (first
          | (go_at_call 65; refine HT.out.mono ?_; rintro e w9 ⟨rfl, h9⟩; have H9 := Lib.hid h9; clear h9)
          | (go_at_call 64; refine (must_t ?hc _).mono ?_; (case hc => first | rfl | assumption); rintro e w8 ⟨rfl, rfl⟩))
        exact ⟨rfl, HF.out _ H9.out⟩
      have HT := Lib.hid (take_px HK.out HXb.out x11 (by rw [HNk.out]; show p + 110 + x11 ≤ n; omega))
      replace HR := Lib.hid ((if_neg c4).symm.trans HR.out)
      have HC4 := Lib.hid c4
      clear c4
      obtain ⟨NM, hNM⟩ : ∃ NM, (K.b.drop (p + 110)).take x11 = NM := ⟨_, rfl⟩
      have HLn := Lib.hid (show NM.length = x11 by rw [← hNM, List.length_take, List.length_drop, HN.out]; have := HC4.out; omega)
      have HNt := Lib.hid (show (K.b.drop (p + 110)).take (x11 - 1) = NM.take (x11 - 1) by rw [← hNM, List.take_take, Nat.min_eq_left (Nat.sub_le _ _)])
      rw [hNM, HNt.out] at HR
      dsimp only at HT
      rw [hNM] at HT
      obtain ⟨CN, hCN⟩ : ∃ CN, K.c - (p + 110) = CN := ⟨_, rfl⟩
      have HCN := Lib.hid (show x11 ≤ CN by rw [← hCN]; have := HC4.out; have := HK.out.cap; have := HNk.out; omega)
      rw [hCN] at HT
      have HIx := Lib.hid (fun v A (h : RdU v A NM) => ixb_any (c := CN) HLn.out (by have := HKk1.out; omega) h)
      obtain ⟨ix, hix⟩ : ∃ ix, Lib.indexByte NM 0 = ix := ⟨_, rfl⟩
      rw [hix] at HR HIx
      have bix : -1 ≤ ix := by rw [← hix]; exact Lib.indexByte_ge NM 0
      clear hNM hCN hix
      by_cases c5 : ix ≠ (x11 : Int) - 1
      case pos =>
        have d8 := (show (ix == (x11 : Int) - 1) = false from by rw [beq_eq_false_iff_ne]; exact c5)
        have HF := Lib.hid (fun v h => HErr.out 2 (HR.out.symm.trans (if_pos c5)) v h)
        clear c5
        go_wp2_with (first
          | (go_at_call 65; refine HT.out.mono ?_; rintro e w9 ⟨AN, rfl, hrN, h91, hx9, h92⟩; have HX9 := Lib.hid hx9; have HRN := Lib.hid hrN; clear hrN hx9 h91 h92)
          | (go_at_call 67; refine (HIx.out _ _ HRN.out).mono ?_; rintro e w8 ⟨rfl, h8⟩; obtain rfl := h8.symm)
          | (go_at_call 64; first
               | (refine (must_t ?hc _).mono ?_; (case hc => first | rfl | assumption); rintro e w8 ⟨rfl, rfl⟩)
               | (refine (must_f ?hc _).mono ?_; (case hc => first | rfl | assumption); rintro e w8 ⟨rfl, rfl⟩)))
        exact ⟨rfl, HF.out _ HX9.out.only⟩
      have d8 := (show (ix == (x11 : Int) - 1) = true from by rw [beq_iff_eq]; exact Classical.not_not.1 c5)
      replace HR := Lib.hid ((if_neg c5).symm.trans HR.out)
      clear c5
      go_upto_region 13 with (first
        | (go_at_call 65; refine HT.out.mono ?_; rintro e w9 ⟨AN, rfl, hrN, h91, hx9, h92⟩; have HX9 := Lib.hid hx9; have HRN := Lib.hid hrN; have HAN := Lib.hid (h91 (by have := HKk1.out; omega)); have HB9 := Lib.hid (h92.keeps HBb.out (by have := HK.out.low; have := HGa.out; omega)); clear hrN hx9 h91 h92)
        | (go_at_call 67; refine (HIx.out _ _ HRN.out).mono ?_; rintro e w8 ⟨rfl, h8⟩; obtain rfl := h8.symm)
        | (go_at_call 64; refine (must_t ?hc _).mono ?_; (case hc => first | rfl | assumption); rintro e w8 ⟨rfl, rfl⟩))
      have hadN := HAN.out
      obtain ⟨adN, hade⟩ : ∃ adN, K.ad.add (p + 110) = adN := ⟨_, rfl⟩
      rw [hade] at hadN
      have HAf := Lib.hid (show adN.block ≠ K.g from by rw [← hade, block_add]; exact HK.out.adg)
      clear hade
      have HAd := Lib.hid hadN
      rw [hadN] at HRN ⊢
      clear hadN
      have b20 : x11 - 1 ≤ CN := by have := HCN.out; omega
      have b21 : 1 ≤ x11 := by have := HKk1.out; omega
      have b22 : x11 ≤ CN := HCN.out
      obtain ⟨nm, hnm⟩ : ∃ nm, NM.take (x11 - 1) = nm := ⟨_, rfl⟩
      have HLm := Lib.hid (show nm.length = x11 - 1 by rw [← hnm, List.length_take, HLn.out]; omega)
      have HRm := Lib.hid (show RdU w9 (some adN) nm from by
        have := rdU_part (at_ := 0) (k := x11 - 1) (by rw [HLn.out]; omega) HRN.out
        rw [List.drop_zero, hnm] at this
        exact this)
      rw [hnm] at HR
      have hcv := str_u CN HRm.out HLm.out
      have hnq := strE_lit nm trailer
      clear hnm HT HIx HRN
      have hnq2 : ((B nm).toList == ([84, 82, 65, 73, 76, 69, 82, 33, 33, 33] : List UInt8)) = decide (nm = trailer) := hnq
      obtain ⟨SN, hSN⟩ : ∃ SN, B nm = SN := ⟨_, rfl⟩
      have HSN := Lib.hid hSN
      rw [hSN] at hcv hnq2

      clear hSN hnq
      by_cases c6 : nm = trailer
      case pos =>
        rw [decide_eq_true c6] at hnq2
        replace HR := Lib.hid ((if_pos c6).symm.trans HR.out)
        have HEn := Lib.hid (end_any HX9.out.par (HX9.out.rd HK.out) HK.out.len HK.out.nl HK.out.cap HX9.out.pos HNo.out)
        dsimp only at HEn
        clear c6
        by_cases c7 : xs.getD 6 0 = 0 ∧ zerosB (K.b.drop (p + 110 + x11)) = true
        · have HF := Lib.hid (fun st' outV es cg ck ow v h1 h => HEnd.out (HR.out.symm.trans (if_pos c7)) st' outV es cg ck ow v h1 h)
          have HE2 := Lib.hid (HEn.out.mono (show ∀ e w', EndPost K.b (p + 110 + x11) xs w9 e w' → e = .returned (.tuple #[]) ∧ Only (fun _ => False) w9 w' from fun e w' h => by unfold EndPost at h; rw [if_pos c7] at h; exact h))
          clear c7 HEn
          go_wp2_with (first
            | ((with_reducible refine gate 63 rfl ?_); refine wpList_load_row rfl 57 _ rfl ga rfl 57 (arrN xs) (0, 0) _ HB9.out Tryz.underlying57 rfl (by rw [arrN_size, HNo.out.1]; exact size57') ?_)
            | (go_at_call 68; refine HE2.out.mono ?_; rintro e w8 ⟨rfl, h8⟩; have H8 := Lib.hid h8; clear h8))
          exact HF.out { st with pos := p + 110 + x11 } _ _ _ _ _ _ rfl (HX9.out.step H8.out)
        · have HF := Lib.hid (fun v h => HErr.out 2 (HR.out.symm.trans (if_neg c7)) v h)
          have HE2 := Lib.hid (HEn.out.mono (show ∀ e w', EndPost K.b (p + 110 + x11) xs w9 e w' → e = .panicked (faultC 2) ∧ Only (fun _ => False) w9 w' from fun e w' h => by unfold EndPost at h; rw [if_neg c7] at h; exact h))
          clear c7 HEn
          go_wp2_with (first
            | ((with_reducible refine gate 63 rfl ?_); refine wpList_load_row rfl 57 _ rfl ga rfl 57 (arrN xs) (0, 0) _ HB9.out Tryz.underlying57 rfl (by rw [arrN_size, HNo.out.1]; exact size57') ?_)
            | (go_at_call 68; refine HE2.out.mono ?_; rintro e w8 ⟨rfl, h8⟩; have H8 := Lib.hid h8; clear h8))
          exact ⟨rfl, HF.out _ (HX9.out.only.trans' H8.out)⟩
      rw [decide_eq_false c6] at hnq2
      replace HR := Lib.hid ((if_neg c6).symm.trans HR.out)
      clear c6
      obtain ⟨p2, hp2⟩ : ∃ p2, p + 110 + x11 = p2 := ⟨_, rfl⟩
      have HXc := Lib.hid (show PX K { st with pos := p2 } outV es cg ck ow w9 from by rw [← hp2]; exact HX9.out)
      rw [hp2] at HR
      have HPs := Lib.hid (show p + 110 ≤ p2 by omega)
      clear hp2 HX9 HXb HBb
      obtain ⟨D, hD⟩ : ∃ D, bodyL K.b K.lim st xs nm p2 = D := ⟨_, rfl⟩
      rw [hD] at HR
      unfold bodyL at hD
      rw [HN.out] at hD
      have HErrD := Lib.hid (fun c (hc : D = .error c) v h => HErr.out c (HR.out.symm.trans (by rw [hc])) v h)
      have HOkD := Lib.hid (fun st' (hc : D = .ok st') outV es cg ck ow v h h' => HOk.out st' (HR.out.symm.trans (by rw [hc])) outV es cg ck ow v h h')
      have HD := Lib.hid hD
      clear hD HR HErr HEnd HOk HNx
      by_cases c7 : n < p2 + padN p2
      case pos =>
        have HT := Lib.hid (align_px_no HK.out HXc.out (by rw [HNk.out]; exact c7))
        have HF := Lib.hid (fun v h => HErrD.out 2 (HD.out.symm.trans (if_pos c7)) v h)
        clear c7
        go_wp2_with (go_at_call 69; refine HT.out.mono ?_; rintro e w8 ⟨rfl, h8⟩; have H8 := Lib.hid h8; clear h8)
        exact ⟨rfl, HF.out _ H8.out⟩
      have HT := Lib.hid (align_px HK.out HXc.out (by rw [HNk.out]; show p2 + padN p2 ≤ n; omega))
      replace HD := Lib.hid ((if_neg c7).symm.trans HD.out)
      clear c7
      go_upto_region 18 with (go_at_call 69; refine HT.out.mono ?_; rintro e w8 ⟨rfl, h8, h81⟩; have HXd := Lib.hid h8; have HBd := Lib.hid (h81.keeps HB9.out (by have := HK.out.low; have := HGa.out; omega)); have HRd := Lib.hid (HRm.out.apart h81 (fun ad' e _ => (by cases e; exact HAf.out))); clear h8 h81)
      obtain ⟨p3, hp3⟩ : ∃ p3, p2 + padN p2 = p3 := ⟨_, rfl⟩
      rw [hp3] at HD
      have HXe := Lib.hid (show PX K { st with pos := p3 } outV es cg ck ow w8 from by rw [← hp3]; exact HXd.out)
      replace HPs := Lib.hid (show p + 110 ≤ p3 by have := HPs.out; omega)
      clear hp3 HXd HT hcv HB9 HRm HXc
      have hcv := str_u CN HRd.out HLm.out
      have hEy := entry_any (name := nm) HXe.out.par (HXe.out.rd HK.out) HK.out.len HK.out.nl HK.out.cap HXe.out.pos HK.out.adg HNo.out (by rw [HLm.out]; have := HKk2.out; omega) (HXe.out.ml HK.out) HK.out.g1
      rw [HSN.out] at hcv hEy
      have HEy := Lib.hid hEy
      clear hEy
      cases hE : entryL K.b p3 xs nm with
      | none =>
        have HF := Lib.hid (fun v h => HErrD.out 2 (HD.out.symm.trans (by rw [hE])) v h)
        have HE2 := Lib.hid (HEy.out.mono (fun e w' h => show e = .panicked (faultC 2) ∧ Only (fun _ => False) K.w0 w' from by
          unfold EntryPost at h
          rw [hE] at h
          exact ⟨h.1, HXe.out.only.trans h.2 (fun b hb => Or.inr (by rw [hb]; exact HK.out.new.1))⟩))
        clear hE HEy
        go_wp2_with (first
          | ((with_reducible refine gate 68 rfl ?_); refine wpList_load_row rfl 57 _ rfl ga rfl 57 (arrN xs) (0, 0) _ HBd.out Tryz.underlying57 rfl (by rw [arrN_size, HNo.out.1]; exact size57') ?_)
          | (go_at_call 70; refine HE2.out.mono ?_; rintro e w7 ⟨rfl, h7⟩; have H7 := Lib.hid h7; clear h7))
        exact ⟨rfl, HF.out _ H7.out⟩
      | some r =>
        obtain ⟨E, at2⟩ := r
        obtain ⟨f1, f2, f3, f4, f5⟩ := entryL_facts hE
        have hat2 := f2 (by rw [HN.out]; have hq : p3 ≤ K.n := HXe.out.pos; have := HNk.out; omega)
        rw [HN.out] at hat2
        replace HD := Lib.hid ((show _ = _ from by rw [hE]).symm.trans HD.out)
        have HE2 := Lib.hid (HEy.out.mono (fun e w' h => show e = .returned (eval E none 0) ∧ PX K { st with pos := at2 } outV es cg ck ow w' ∧ Only (fun b => b = K.g) w8 w' from by
          unfold EntryPost at h
          rw [hE] at h
          have hm := HXe.out.move HK.out (at2 - p3) (by have := h.2.1; dsimp only; rw [show p3 + (at2 - p3) = at2 by omega]; exact this) h.2.2 (by show p3 + (at2 - p3) ≤ K.n; have := HNk.out; omega)
          rw [show ({ st with pos := p3 } : PS).pos + (at2 - p3) = at2 from by show p3 + (at2 - p3) = at2; omega] at hm
          exact ⟨h.1, hm, h.2.2⟩))
        have HEf := Lib.hid (And.intro f3 (And.intro f4 f5))
        dsimp only at HD
        replace HPs := Lib.hid (show p + 110 ≤ at2 by have := HPs.out; omega)
        clear hE HEy f1 f2 f3 f4 f5
        go_upto_region 19 with (first
          | ((with_reducible refine gate 68 rfl ?_); refine wpList_load_row rfl 57 _ rfl ga rfl 57 (arrN xs) (0, 0) _ HBd.out Tryz.underlying57 rfl (by rw [arrN_size, HNo.out.1]; exact size57') ?_)
          | (go_at_call 70; refine HE2.out.mono ?_; rintro e w7 ⟨rfl, h7, h71⟩; have HX7 := Lib.hid h7; have HB7 := Lib.hid (h71.keeps HBd.out (by have := HK.out.low; have := HGa.out; omega)); clear h7 h71)
          | ((with_reducible refine gate_store 47 rfl ?_); refine store_newE rfl rfl E none 0 _ _ rfl rfl rfl ?_; intro w6 hb6 ho6))
        have HX6 := Lib.hid (HX7.out.step ho6)
        have HB6 := Lib.hid (ho6.keeps HB7.out id)
        have HFe := Lib.hid (HX7.out.fresh (Nat.le_refl _))
        have HGe := Lib.hid (show K.base ≤ w7.heap.size ∧ ga < w7.heap.size from ⟨HX7.out.siz, Only.heap_lt HB7.out⟩)
        obtain ⟨ge, hge⟩ : ∃ ge, w7.heap.size = ge := ⟨_, rfl⟩
        rw [hge] at hb6 HFe HGe ⊢
        have HE6 := Lib.hid hb6
        clear hb6 ho6 hge HX7 HB7 HE2 HXe HBd HRd hcv
        clear w8
        obtain ⟨Ao, cap, hv, hRo, hAo⟩ := HX6.out.shape
        have HSh := Lib.hid (And.intro hv hAo)
        have HNa := Lib.hid (named_any (cap := cap) (E := E) (ns := xs) (by rw [← hv]; exact HX6.out.par) HE6.out HX6.out.grp HX6.out.kin hRo HX6.out.pth (fun ad e e2 => HFe.out.1 ad.block (hAo ad e).2.2.2 e2) (Ne.symm HK.out.ne.2.2.2.2.2) rfl (show st.out.length ≤ 1000000 by have := HLen.out; omega) (show cg ≤ 1000000 by have h0 := HGI.out.cgl; have := HLen.out; omega) HNo.out HGI.out.gok)
        clear hv hRo hAo
        cases hN : namedL st.out st.grp E xs with
        | none =>
          have HF := Lib.hid (fun v h => HErrD.out 2 (HD.out.symm.trans (by rw [hN])) v h)
          have HE2 := Lib.hid (HNa.out.mono (fun e w' h => show e = .panicked (faultC 2) ∧ Only (fun _ => False) K.w0 w' from by
            unfold NamedPost at h
            rw [hN] at h
            exact ⟨h.1, HX6.out.only.trans h.2 (fun b hb => Or.inr (by have h1 := HK.out.new; have h2 := HK.out.low; have h3 := HGe.out.1; omega))⟩))
          clear hN HNa
          go_wp2_with (first
            | ((with_reducible refine gate 73 rfl ?_); refine wpList_load_row rfl 57 _ rfl ga rfl 57 (arrN xs) (0, 0) _ HB6.out Tryz.underlying57 rfl (by rw [arrN_size, HNo.out.1]; exact size57') ?_)
            | (go_at_call 71; refine HE2.out.mono ?_; rintro e w5 ⟨rfl, h5⟩; have H5 := Lib.hid h5; clear h5))
          exact ⟨rfl, HF.out _ H5.out⟩
        | some r =>
          obtain ⟨E2, whose, grp2⟩ := r
          obtain ⟨f1, f2, f3, f4, f5, f6, f7⟩ := namedL_facts HGI.out HNo.out HEf.out.1 hN
          replace HD := Lib.hid ((show _ = _ from by rw [hN]).symm.trans HD.out)
          dsimp only at HD
          have HE2 := Lib.hid (HNa.out.mono (fun e w' h => show e = .returned (.int .i64 (whose : Int)) ∧ PX K { st with pos := at2, grp := grp2 } outV es (cg + 1) ck ow w' ∧ w'.heap[ge]? = some (.cells (erow E2 none 0) 47 (0, 0)) ∧ Only (fun b => b = ge ∨ b = K.gg) w6 w' from by
            unfold NamedPost at h
            rw [hN] at h
            exact ⟨h.1, HX6.out.group HK.out HGe.out.1 HFe.out h.2.2.1 h.2.2.2, h.2.1, h.2.2.2⟩))
          have HNf := Lib.hid (And.intro f1 (And.intro f2 (And.intro f3 (And.intro f4 (And.intro f5 (And.intro f6 f7))))))
          clear hN HNa f1 f2 f3 f4 f5 f6 f7
          go_upto_region 20 with (first
            | ((with_reducible refine gate 73 rfl ?_); refine wpList_load_row rfl 57 _ rfl ga rfl 57 (arrN xs) (0, 0) _ HB6.out Tryz.underlying57 rfl (by rw [arrN_size, HNo.out.1]; exact size57') ?_)
            | (go_at_call 71; refine HE2.out.mono ?_; rintro e w5 ⟨rfl, h5, h51, h52⟩; have HX5 := Lib.hid h5; have HE5 := Lib.hid h51; have HB5 := Lib.hid (h52.keeps HB6.out (by have h1 := HGe.out; have h2 := HK.out.low; have h3 := HGa.out; omega)); clear h5 h51 h52))
          have HPl := Lib.hid (show E2.path.length ≤ 4096 by rw [HNf.out.2.1]; exact HEf.out.2.1)
          obtain ⟨SP, hSP⟩ : ∃ SP, B E2.path = SP := ⟨_, rfl⟩
          have HSP := Lib.hid hSP
          have HSz := Lib.hid (show SP.size = E2.path.length by rw [← hSP, B_size])
          have hz : SP.size ≤ 4096 := by rw [HSz.out]; exact HPl.out
          have he0 : w5.cell? ⟨ge, 0, none⟩ = some (.string SP) := by rw [← hSP]; exact Joins.cell_of_block HE5.out 0
          have hl2 : ∀ x : Later w5, x.w.cell? ⟨K.g, 2, none⟩ = some (.pointer (some ⟨K.gb, 0, none⟩)) := fun x => x.h.cell (Joins.cell_of_block HX5.out.par 2) id
          have hl0 : ∀ x : Later w5, x.w.cell? ⟨ge, 0, none⟩ = some (.string SP) := fun x => x.h.cell he0 id
          have HBg := Lib.hid (fun v (hv : Only (fun _ => False) w5 v) => Bud.begin_any K.gb K.lim.entry K.lim.total K.lim.entries K.lim.path K.r (st.out.length : Int) st.total ow (SP.size : Int) v (hv.keeps HX5.out.bud id) (by omega) (by have := HLen.out; omega))
          clear he0 hSP
          obtain ⟨D2, hD2⟩ : ∃ D2, tailL K.b K.lim st xs E2 whose grp2 at2 = D2 := ⟨_, rfl⟩
          rw [hD2] at HD
          obtain rfl := HD.out
          unfold tailL at hD2
          rw [HN.out] at hD2
          have HD2 := Lib.hid hD2
          clear hD2 HD
          by_cases k1 : K.lim.path < E2.path.length ∨ (st.out.length : Int) ≥ K.lim.entries
          case pos =>
            have HF := Lib.hid (fun v h => HErrD.out 3 (HD2.out.symm.trans (if_pos k1)) v h)
            have HB2 := Lib.hid (fun v (hv : Only (fun _ => False) w5 v) => (HBg.out v hv).mono (fun e w' h => show e = .returned (.int .i64 3) ∧ Only (fun b => b = K.gb) v w' from by
              obtain ⟨h1, _, h3⟩ := h
              rw [show Bud.beginC K.lim.path K.lim.entries (st.out.length : Int) (SP.size : Int) = 3 by unfold Bud.beginC; rw [if_pos (by rw [HSz.out]; exact k1)]] at h1
              exact ⟨h1, h3⟩))
            clear k1 HBg
            refine wp_region_head_later 7 (by kernel_rfl) (by kernel_rfl) ?_
            simp only [List.take_succ_cons, List.take_zero, List.drop_succ_cons, List.drop_zero]
            repeat (go_big_quiet_step (fail))
            refine wpQuiet_nil ?_
            rintro u ⟨x, hx⟩
            have hu := x.h
            rw [← hx] at hu
            clear hx hl2 hl0
            go_wp2_with (first
              | (go_at_call 72; refine (HB2.out _ hu).mono ?_; rintro e w4 ⟨rfl, h4⟩; have H4 := Lib.hid h4; clear h4)
              | (go_at_call 73; refine (fail_any 3 _).mono ?_; rintro e w9 ⟨rfl, h9⟩; obtain rfl := h9.symm))
            exact ⟨rfl, HF.out _ ((HX5.out.only.trans' hu).trans H4.out (fun b hb => Or.inr (by rw [hb]; exact HK.out.new.2.1)))⟩
          have HB2 := Lib.hid (fun v (hv : Only (fun _ => False) w5 v) => (HBg.out v hv).mono (fun e w' h => show e = .returned (.int .i64 0) ∧ w'.heap[K.gb]? = some (Bud.bud K.lim.entry K.lim.total K.lim.entries K.lim.path K.r ((st.out.length : Int) + 1) st.total 0) ∧ Only (fun b => b = K.gb) v w' from by
            obtain ⟨h1, h2, h3⟩ := h
            rw [show Bud.beginC K.lim.path K.lim.entries (st.out.length : Int) (SP.size : Int) = 0 by unfold Bud.beginC; rw [if_neg (by rw [HSz.out]; exact k1)]] at h1 h2
            exact ⟨h1, h2, h3⟩))
          replace HD2 := Lib.hid ((if_neg k1).symm.trans HD2.out)
          clear k1 HBg
          refine wp_region_head_later 7 (by kernel_rfl) (by kernel_rfl) ?_
          simp only [List.take_succ_cons, List.take_zero, List.drop_succ_cons, List.drop_zero]
          repeat (go_big_quiet_step (fail))
          refine wpQuiet_nil ?_
          rintro u ⟨x, hx⟩
          have hu := x.h
          rw [← hx] at hu
          clear hx hl2 hl0
          go_upto_region 23 with (go_at_call 72; refine (HB2.out _ hu).mono ?_; rintro e w4 ⟨rfl, h4, h41⟩; have H4 := Lib.hid h4; have H41 := Lib.hid h41; clear h4 h41)
          replace H41 := Lib.hid ((hu.mono (fun _ _ h => h.elim) : Only (fun b => b = K.gb) w5 u).trans' H41.out)
          have HB4 := Lib.hid (H41.out.keeps HB5.out (by have h2 := HK.out.low; have h3 := HGa.out; omega))
          have HE4 := Lib.hid (H41.out.keeps HE5.out (by have h2 := HK.out.low; have h3 := HGe.out.1; omega))
          have HP4 := Lib.hid (H41.out.keeps HX5.out.par HK.out.ne.1)
          have HM4 := Lib.hid (mapAny_only HX5.out.kin H41.out (Ne.symm HK.out.ne.2.2.2.1))
          have he0 : w4.cell? ⟨ge, 0, none⟩ = some (.string SP) := by rw [← HSP.out]; exact Joins.cell_of_block HE4.out 0
          have he1 : w4.cell? ⟨ge, 1, none⟩ = some (.int .i64 E2.kind) := Joins.cell_of_block HE4.out 1
          have hl4 : ∀ x : Later w4, x.w.cell? ⟨K.g, 4, none⟩ = some (.map (some K.gk)) := fun x => x.h.cell (Joins.cell_of_block HP4.out 4) id
          have hl0 : ∀ x : Later w4, x.w.cell? ⟨ge, 0, none⟩ = some (.string SP) := fun x => x.h.cell he0 id
          have hl1 : ∀ x : Later w4, x.w.cell? ⟨ge, 1, none⟩ = some (.int .i64 E2.kind) := fun x => x.h.cell he1 id
          have HKd := Lib.hid (show -9223372036854775808 ≤ E2.kind ∧ E2.kind ≤ 9223372036854775807 by
            rcases HNf.out.2.2.2.1 with h | h
            · rcases HEf.out.2.2 with h2 | h2 | h2 <;> omega
            · omega)
          have HKey := Lib.hid (show keyOf Tryz.prog 9 (.string SP) = some (.string E2.path) by rw [← HSP.out]; exact key_B (by have := HPl.out; omega))
          have HCk := Lib.hid (show ck < maxLen by have h1 := HX5.out.ckl; have h2 := HLen.out; have h3 : ck ≤ st.out.length := h1; unfold maxLen; omega)
          have HSn := Lib.hid (kmap_snoc st.out E2)
          clear he0 he1 hu HB2
          clear u
          refine wp_region_head_later 8 (by kernel_rfl) (by kernel_rfl) ?_
          simp only [List.take_succ_cons, List.take_zero, List.drop_succ_cons, List.drop_zero]
          repeat (go_big_quiet_step (fail))
          refine wpQuiet_nil ?_
          rintro u ⟨x, hx⟩
          have hu := x.h
          rw [← hx] at hu
          clear hx hl4 hl0 hl1
          have HMu := Lib.hid (mapAny_only HM4.out hu id)
          go_upto_region 24 with (first
            | (at_mapUpdate
               refine wpList_mapUpdate_own _ rfl _ _ _ 61 rfl 9 3 keyed9 Tryz.underlying61 _ K.gk ck _ rfl HMu.out HCk.out _ _ _ rfl rfl HKey.out _ [] (plainElem_int Tryz.underlying3 (WalkArith.wf_i64 HKd.out)) ?_
               intro w3 hown3 hgrow3
               have HM3 := Lib.hid hown3
               have HL3 := Lib.hid (only_grown hgrow3)
               clear hown3 hgrow3))
          replace HL3 := Lib.hid ((hu.mono (fun _ _ h => h.elim) : Only (fun b => b = K.gk) w4 u).trans' HL3.out)
          have HB3 := Lib.hid (HL3.out.keeps HB4.out (by have h2 := HK.out.low; have h3 := HGa.out; omega))
          have HE3 := Lib.hid (HL3.out.keeps HE4.out (by have h2 := HK.out.low; have h3 := HGe.out.1; omega))
          have HP3 := Lib.hid (HL3.out.keeps HP4.out HK.out.ne.2.1)
          have HO53 := Lib.hid (show Only (fun b => b = K.gb ∨ b = K.gk) w5 w3 from (H41.out.mono (fun _ _ h => Or.inl h)).trans HL3.out (fun b h => Or.inl (Or.inr h)))
          have HOw := Lib.hid (show OwnE K.base w3 outV es from ownE_but HX5.out.own HO53.out (fun b e e2 => by have := (ownE_lt HX5.out.own e).2; have := HK.out.low; omega) (fun e he ad e1 h0 e2 => by have := (HX5.out.data_lt e he ad e1 h0).2; have := HK.out.low; omega))
          have HBs := Lib.hid (show K.base ≤ w3.heap.size from Nat.le_trans HX5.out.siz HO53.out.size)
          have hk3 : ∀ v, Only (fun b => some b = outV.ownBlock) w3 v → v.cell? ⟨K.g, 3, none⟩ = some outV := fun v h => h.cell (Joins.cell_of_block HP3.out 3) (fun e => by have h1 := (ownE_lt HX5.out.own e.symm).2; have h2 := HK.out.low; exact absurd h1 (by show ¬ K.base ≤ K.g; omega))
          have hfz : ∀ v, Only (fun b => some b = outV.ownBlock) w3 v → v.frozen? ⟨K.g, 3, none⟩ = false := fun v h => frozen_of_row v K.g 3 _ _ (h.keeps HP3.out (fun e => by have h1 := (ownE_lt HX5.out.own e.symm).2; have h2 := HK.out.low; omega))
          have hlE : ∀ v, Only (fun b => some b = outV.ownBlock) w3 v → (loadVar 47 ⟨ge, 0, none⟩).run Tryz.prog v = .ok (.agg #[.string (B E2.path), .int .i64 E2.kind, .int .i64 E2.mode, .int .i64 E2.uid, .int .i64 E2.gid, .float .f64 E2.time, .string (B E2.target), .slice none E2.data.length 0]) v := fun v h => loadE (h.keeps HE3.out (fun e => HFe.out.1 _ e.symm rfl))
          clear hu HMu
          clear u
          have HEn := Lib.hid (fun (v : World) => show EntAt v E2 none 0 from ⟨by rw [HNf.out.2.2.1]; exact RdU.nil _ _, by rw [HNf.out.2.2.1]; exact Nat.le_refl _⟩)
          have HL7 := Lib.hid (show es.length ≤ 1000000 by have h1 := HX5.out.len; have h2 := HLen.out; have h3 : es.length = st.out.length := h1; omega)
          have k3 := hk3 _ (Only.refl _ w3)
          have l3 : (loadVar 47 ⟨ge, 0, none⟩).run Tryz.prog w3.drew = .ok (.agg #[.string (B E2.path), .int .i64 E2.kind, .int .i64 E2.mode, .int .i64 E2.uid, .int .i64 E2.gid, .float .f64 E2.time, .string (B E2.target), .slice none E2.data.length 0]) w3.drew := hlE _ (Only.refl _ w3).drew
          have z3 : K.g < w3.heap.size := Only.heap_lt HP3.out
          have h6 : Only (fun _ => False) w3 (w3.alloc (.cells #[.string (B E2.path), .int .i64 E2.kind, .int .i64 E2.mode, .int .i64 E2.uid, .int .i64 E2.gid, .float .f64 E2.time, .string (B E2.target), .slice none E2.data.length 0] 47)).drew := ((Only.refl _ w3).alloc _).drew
          have h7 : RdE (w3.alloc (.cells #[.string (B E2.path), .int .i64 E2.kind, .int .i64 E2.mode, .int .i64 E2.uid, .int .i64 E2.gid, .float .f64 E2.time, .string (B E2.target), .slice none E2.data.length 0] 47)).drew (some ⟨w3.heap.size, 0, none⟩) [E2] (fun _ => (none, 0)) := rdE_one (e := (E2, none, 0)) (alloc_new w3 _) (HEn.out _)
          obtain ⟨A2, c2, w2, hrun, hO2, ho2⟩ := appE_run 22 outV es (E2, none, 0) w3.heap.size 1 (ownE_only HOw.out h6) (fun _ => (none, 0)) rfl h7 (fun _ e => nomatch e) (Nat.le_trans HBs.out h6.size) HL7.out
          have ho2' : Only (fun b => some b = outV.ownBlock) w3 w2 := (h6.mono (fun _ _ h => h.elim)).trans' ho2
          have q3 := hk3 _ ho2'
          have qz := hfz _ ho2'
          have HO2 := Lib.hid hO2
          have HO32 := Lib.hid ho2'
          clear hk3 hfz hlE h6 h7 hO2 ho2 ho2'
          rw [put_none]
          go_region
          have q1 := heap_setCell_same w2 K.g 3 _ _ (.slice A2 (es.length + 1) c2) (HO32.out.keeps HP3.out (fun e => by have h1 := (ownE_lt HX5.out.own e.symm).2; have h2 := HK.out.low; omega))
          have HXn := Lib.hid (show PX K { st with pos := at2, grp := grp2, out := st.out ++ [E2] } (.slice A2 (es.length + 1) c2) (es ++ [(E2, none, 0)]) (cg + 1) (ck + 1) 0 (w2.setCell ⟨K.g, 3, none⟩ (.slice A2 (es.length + 1) c2)) from
            HX5.out.append HK.out HNf.out.2.2.1 (by have := HPl.out; omega) (by show st.out.length < at2; have h1 := HLen.out.2; have h2 := HPs.out; have h3 := HP.out; omega) H4.out H41.out (by have := HM3.out; rw [← HSn.out] at this; exact this) HL3.out HO2.out HO32.out q1 (only_put w2 K.g 3 _))
          have HB1 := Lib.hid (show (w2.setCell ⟨K.g, 3, none⟩ (.slice A2 (es.length + 1) c2)).heap[ga]? = some (.cells (arrN xs) 57 (0, 0)) from (only_put w2 K.g 3 _).keeps (HO32.out.keeps HB3.out (fun e => HFa.out.1 _ e.symm rfl)) (by have h2 := HK.out.low; have h3 := HGa.out; omega))
          have HE1 := Lib.hid (show (w2.setCell ⟨K.g, 3, none⟩ (.slice A2 (es.length + 1) c2)).heap[ge]? = some (.cells (erow E2 none 0) 47 (0, 0)) from (only_put w2 K.g 3 _).keeps (HO32.out.keeps HE3.out (fun e => HFe.out.1 _ e.symm rfl)) (by have h2 := HK.out.low; have h3 := HGe.out.1; omega))
          obtain ⟨w1, hw1⟩ : ∃ w1, w2.setCell ⟨K.g, 3, none⟩ (.slice A2 (es.length + 1) c2) = w1 := ⟨_, rfl⟩
          rw [hw1] at HXn HB1 HE1 ⊢
          clear q1 hw1 q3 qz k3 l3 z3 hrun HO2 HO32 HB3 HE3 HP3 HO53 HOw HBs HL3 HM3 H4 H41 HB4 HE4 HP4 HM4 HE5 HB5 HX5 HEn HL7
          have he1 : w1.cell? ⟨ge, 1, none⟩ = some (.int .i64 E2.kind) := Joins.cell_of_block HE1.out 1
          by_cases k2 : E2.kind = 1 ∨ E2.kind = 4
          case neg =>
            have e1 : (E2.kind == 1) = false := beq_eq_false_iff_ne.mpr (fun h => k2 (Or.inl h))
            have e4 : (E2.kind == 4) = false := beq_eq_false_iff_ne.mpr (fun h => k2 (Or.inr h))
            have hEq : E2 = E ∧ grp2 = st.grp := HNf.out.2.2.2.2.1 (fun h => by
              rcases HNf.out.2.2.2.1 with h2 | h2
              · exact k2 (Or.inl (h2.trans h))
              · exact k2 (Or.inr h2.2))
            have HGn := Lib.hid (fun p t => show GI ⟨p, t, st.out ++ [E2], grp2⟩ (cg + 1) from by rw [hEq.2]; exact gi_plain HGI.out E2 p t)
            replace HD2 := Lib.hid ((if_neg k2).symm.trans HD2.out)
            clear k2 hEq
            by_cases c8 : n < at2 + padN at2
            · have HT := Lib.hid (align_px_no HK.out HXn.out (by rw [HNk.out]; exact c8))
              have HF := Lib.hid (fun v h => HErrD.out 2 (HD2.out.symm.trans (if_pos c8)) v h)
              clear c8
              go_wp2_with (go_at_call 69; refine HT.out.mono ?_; rintro e w8 ⟨rfl, h8⟩; have H8 := Lib.hid h8; clear h8)
              exact ⟨rfl, HF.out _ H8.out⟩
            · have HT := Lib.hid (align_px HK.out HXn.out (by rw [HNk.out]; show at2 + padN at2 ≤ n; omega))
              have HF := Lib.hid (fun outV es cg ck ow v h h' => HOkD.out _ (HD2.out.symm.trans (if_neg c8)) outV es cg ck ow v h h')
              clear c8
              go_wp2_with (go_at_call 69; refine HT.out.mono ?_; rintro e w8 ⟨rfl, h8, h81⟩; have H8 := Lib.hid h8; clear h8 h81)
              exact HF.out _ _ _ _ _ _ H8.out (HGn.out _ _)
          replace HD2 := Lib.hid ((if_pos k2).symm.trans HD2.out)
          have HK2 := Lib.hid k2
          clear k2
          go_upto_region 25 with (fail)
          go_cut [112] from 105 to 112 (fun v112 wc => v112 = .bool true ∧ w1 = wc)
          case first =>
            rcases HK2.out with h1 | h4
            · have e1 : (E2.kind == 1) = true := beq_iff_eq.mpr h1
              clear h1
              go_wp2_with fail
              all_goals
                go_meet
                case rel => exact ⟨rfl, rfl⟩
            · have e1 : (E2.kind == 1) = false := beq_eq_false_iff_ne.mpr (by omega)
              have e4 : (E2.kind == 4) = true := beq_iff_eq.mpr h4
              clear h4
              go_wp2_with fail
              all_goals
                go_meet
                case rel => exact ⟨rfl, rfl⟩
          case rest =>
            obtain ⟨rfl, rfl⟩ := hcut
            obtain ⟨x6, hx6⟩ : ∃ x, xs.getD 6 0 = x := ⟨_, rfl⟩
            have b6 := HNo.out.at 6
            have c6 := (Joins.cell_of_block HB1.out 6).trans (arrN_get (ns := xs) (i := 6) (by rw [HNo.out.1]; decide))
            rw [hx6] at b6 c6 HD2
            have HX6n := Lib.hid hx6
            have hlim := HK.out.lim
            unfold Lim.ok Bud.mayB Bud.withinB at hlim
            simp only [Bool.and_eq_true, decide_eq_true_eq] at hlim
            have HLi := Lib.hid hlim
            obtain ⟨rm, hrm⟩ : ∃ rm, min K.lim.entry (K.lim.total - st.total) = rm := ⟨_, rfl⟩
            rw [hrm] at HD2
            have HRm2 := Lib.hid (fun v (hv : Only (fun _ => False) w1 v) => (Bud.room_any K.gb K.lim.entry K.lim.total K.lim.entries K.lim.path K.r (((st.out ++ [E2]).length : Nat) : Int) st.total 0 v (hv.keeps HXn.out.bud id) hlim.1.1.1 hlim.1.1.2 HXn.out.tot ⟨Int.le_refl 0, hlim.1.1.1.1⟩).mono (fun e w' h => show e = .returned (.int .i64 rm) ∧ Only (fun _ => False) v w' from by
              obtain ⟨h1, m, h2⟩ := h
              rw [show Bud.roomC K.lim.entry K.lim.total (((st.out ++ [E2]).length : Nat) : Int) st.total 0 = rm by
                unfold Bud.roomC
                rw [if_neg (by rw [List.length_append, List.length_singleton]; omega), ← hrm, Int.sub_zero]
                split <;> omega] at h1
              exact ⟨h1, by rw [h2]; exact (Only.refl _ _).drewN _⟩))
            have hl6 : ∀ x : Later w1, x.w.cell? ⟨ga, 6, none⟩ = some (.int .i64 (x6 : Int)) := fun x => x.h.cell c6 id
            have hl2 : ∀ x : Later w1, x.w.cell? ⟨K.g, 2, none⟩ = some (.pointer (some ⟨K.gb, 0, none⟩)) := fun x => x.h.cell (Joins.cell_of_block HXn.out.par 2) id
            have HRmE := Lib.hid hrm
            clear hx6 hlim hrm he1 c6
            go_upto_region 26 with (fail)
            refine wp_region_head_later 7 (by kernel_rfl) (by kernel_rfl) ?_
            simp only [List.take_succ_cons, List.take_zero, List.drop_succ_cons, List.drop_zero]
            repeat (go_big_quiet_step ((go_at_call 74; exact Calls.later (HRm2.out _ (Later.h _)))))
            refine wpQuiet_nil ?_
            rintro u ⟨x, hx⟩
            have hu := x.h
            rw [← hx] at hu
            clear hx hl6 hl2 HRm2
            have HXu := Lib.hid (HXn.out.step hu)
            have HBu := Lib.hid (hu.keeps HB1.out id)
            clear hu HXn HB1 HE1
            by_cases k3 : (x6 : Int) > rm
            case pos =>
              have d9 := (show decide ((x6 : Int) > rm) = true from decide_eq_true k3)
              have HF := Lib.hid (fun v h => HErrD.out 3 (HD2.out.symm.trans (if_pos k3)) v h)
              clear k3
              go_wp2_with (go_at_call 73; refine (fail_any 3 _).mono ?_; rintro e w9 ⟨rfl, h9⟩; obtain rfl := h9.symm)
              exact ⟨rfl, HF.out _ HXu.out.only⟩
            have d9 := (show decide ((x6 : Int) > rm) = false from decide_eq_false k3)
            replace HD2 := Lib.hid ((if_neg k3).symm.trans HD2.out)
            have HK3 := Lib.hid k3
            clear k3
            by_cases c8 : n < at2 + x6
            case pos =>
              have HT := Lib.hid (take_px_no HK.out HXu.out x6 (by rw [HNk.out]; exact c8))
              have HF := Lib.hid (fun v h => HErrD.out 2 (HD2.out.symm.trans (if_pos c8)) v h)
              have c6 := (Joins.cell_of_block HBu.out 6).trans (arrN_get (ns := xs) (i := 6) (by rw [HNo.out.1]; decide))
              rw [HX6n.out] at c6
              clear c8
              go_wp2_with (go_at_call 65; refine HT.out.mono ?_; rintro e w9 ⟨rfl, h9⟩; have H9 := Lib.hid h9; clear h9)
              exact ⟨rfl, HF.out _ H9.out⟩
            have HT := Lib.hid (take_px HK.out HXu.out x6 (by rw [HNk.out]; show at2 + x6 ≤ n; omega))
            replace HD2 := Lib.hid ((if_neg c8).symm.trans HD2.out)
            have HC8 := Lib.hid c8
            clear c8
            obtain ⟨T9, hT9⟩ : ∃ T9, (K.b.drop at2).take x6 = T9 := ⟨_, rfl⟩
            have HL9 := Lib.hid (show T9.length = x6 by rw [← hT9, List.length_take, List.length_drop, HN.out]; have := HC8.out; omega)
            dsimp only at HT
            rw [hT9] at HT HD2
            obtain ⟨C9, hC9⟩ : ∃ C9, K.c - at2 = C9 := ⟨_, rfl⟩
            rw [hC9] at HT
            have c6 := (Joins.cell_of_block HBu.out 6).trans (arrN_get (ns := xs) (i := 6) (by rw [HNo.out.1]; decide))
            rw [HX6n.out] at c6
            clear hT9 hC9
            go_upto_region 29 with (go_at_call 65; refine HT.out.mono ?_; rintro e w9 ⟨A9, rfl, hr9, h91, hx9, h92⟩; have HX9 := Lib.hid hx9; have HR9 := Lib.hid hr9; have HB9 := Lib.hid (h92.keeps HBu.out (by have := HK.out.low; have := HGa.out; omega)); have HAp := Lib.hid (show ∀ ad, A9 = some ad → 0 < T9.length → ad.block ≠ K.gb from fun ad e h0 => by have e2 := h91 (by rw [HL9.out] at h0; exact h0); rw [e] at e2; injection e2 with e2; rw [e2, block_add]; have h1 := HK.out.adl; have h2 := HK.out.new.2.1; omega); clear hr9 h91 hx9 h92)
            have c6 := (Joins.cell_of_block HB9.out 6).trans (arrN_get (ns := xs) (i := 6) (by rw [HNo.out.1]; decide))
            rw [HX6n.out] at c6
            have hl6 : ∀ x : Later w9, x.w.cell? ⟨ga, 6, none⟩ = some (.int .i64 (x6 : Int)) := fun x => x.h.cell c6 id
            have hl2 : ∀ x : Later w9, x.w.cell? ⟨K.g, 2, none⟩ = some (.pointer (some ⟨K.gb, 0, none⟩)) := fun x => x.h.cell (Joins.cell_of_block HX9.out.par 2) id
            have hrmE : min K.lim.entry (K.lim.total - st.total) = rm := HRmE.out
            have hx6rm : (x6 : Int) ≤ rm := by have := HK3.out; omega
            have HDa := Lib.hid (fun v (hv : Only (fun _ => False) w9 v) => (Bud.data_any K.gb K.lim.entry K.lim.total K.lim.entries K.lim.path K.r (((st.out ++ [E2]).length : Nat) : Int) st.total 0 (x6 : Int) v (hv.keeps HX9.out.bud id) HLi.out.1.1.1 HLi.out.1.1.2 HX9.out.tot ⟨Int.le_refl 0, HLi.out.1.1.1.1⟩).mono (fun e w' h => show e = .returned (.int .i64 0) ∧ w'.heap[K.gb]? = some (Bud.bud K.lim.entry K.lim.total K.lim.entries K.lim.path K.r (((st.out ++ [E2]).length : Nat) : Int) (st.total + x6) (x6 : Int)) ∧ Only (fun b => b = K.gb) v w' from by
              obtain ⟨h1, h2, h3⟩ := h
              rw [show Bud.dataC K.lim.entry K.lim.total (((st.out ++ [E2]).length : Nat) : Int) st.total 0 (x6 : Int) = 0 by
                unfold Bud.dataC Bud.roomC
                rw [if_neg (by omega), if_neg (by
                  rw [if_neg (by rw [List.length_append, List.length_singleton]; omega), Int.sub_zero]
                  split <;> omega)]] at h1 h2
              rw [if_pos rfl, Int.zero_add] at h2
              exact ⟨h1, h2, h3⟩))
            have HTt := Lib.hid (show (0 ≤ st.total + x6 ∧ st.total + x6 ≤ K.lim.total) ∧ (0 ≤ (x6 : Int) ∧ (x6 : Int) ≤ K.lim.entry) from by have := HX9.out.tot; have h2 : 0 ≤ st.total ∧ st.total ≤ K.lim.total := this; omega)
            clear c6 hrmE hx6rm HT HXu HBu
            refine wp_region_head_later 6 (by kernel_rfl) (by kernel_rfl) ?_
            simp only [List.take_succ_cons, List.take_zero, List.drop_succ_cons, List.drop_zero]
            repeat (go_big_quiet_step (fail))
            refine wpQuiet_nil ?_
            rintro u2 ⟨x, hx⟩
            have hu := x.h
            rw [← hx] at hu
            clear hx hl6 hl2
            go_upto_region 30 with (go_at_call 75; refine (HDa.out _ hu).mono ?_; rintro e w8 ⟨rfl, h8, h81⟩; have HXd := Lib.hid ((HX9.out.step hu).paid HK.out h8 h81 HTt.out.1 HTt.out.2); have HRd := Lib.hid ((HR9.out.only hu).apart h81 (fun ad e h0 => HAp.out ad e h0)); clear h8 h81)
            have hlenE : es.length = st.out.length := HX.out.len
            have hwl : whose < (es ++ [(E2, none, 0)]).length := by rw [List.length_append, List.length_singleton]; have h1 : whose ≤ st.out.length := HNf.out.1; omega
            obtain ⟨e9, he9⟩ : ∃ e9, (es ++ [((E2, none, 0) : Ent3)])[whose]? = some e9 := ⟨_, List.getElem?_eq_getElem hwl⟩
            obtain ⟨Ew, Aw, cw⟩ := e9
            obtain ⟨A8, cap8, hv8, hr8, hA8⟩ := HXd.out.shape
            injection hv8 with hv1 hv2 hv3
            have hEw : (st.out ++ [E2])[whose]? = some Ew := by
              have := HXd.out.map
              dsimp only at this
              rw [← this, List.getElem?_map, he9]; rfl
            obtain ⟨_, ad8, had8, hrow⟩ := hr8 whose Ew hEw
            obtain ⟨hA1, hA2, hA3, hA4⟩ := hA8 ad8 had8
            obtain ⟨g2, hg2⟩ : ∃ g2, ad8.block = g2 := ⟨_, rfl⟩
            rw [hg2] at hA1 hA2 hA3
            have hatE : atE (es ++ [((E2, none, 0) : Ent3)]) whose = (Aw, cw) := by unfold atE; rw [he9]; rfl
            rw [hatE] at hrow
            have hD9 : w8.cell? ⟨g2, whose * 8 + 7, none⟩ = some (.slice Aw Ew.data.length cw) := by
              have := hrow 7 _ rfl
              rw [hA1] at this
              rwa [addr0] at this
            have hA2e : A2 = some ⟨g2, 0, none⟩ := by rw [hv1, had8, hA1]
            have HX8 := Lib.hid (show PX K { pos := at2 + x6, total := st.total + x6, out := st.out ++ [E2], grp := grp2 } (.slice (some ⟨g2, 0, none⟩) (es ++ [((E2, none, 0) : Ent3)]).length c2) (es ++ [(E2, none, 0)]) (cg + 1) (ck + 1) x6 w8 from by
              have := HXd.out
              rw [hA2e] at this
              rw [List.length_append, List.length_singleton]
              exact this)
            have hmem := List.mem_of_getElem? he9
            obtain ⟨Ad, cd, w7, hrun, hRd, hcd, hod, hnd, hfd⟩ := appD_run 26 (W := w8.drew) (base := K.base) (g2 := g2) (E := Ew) (A := Aw) (A9 := A9) (c := cw) (C9 := C9) HL9.out (by have := HC8.out; have h2 := HK.out.nl; have h3 := HNk.out; omega) ((HX8.out.own.2 _ hmem).1) (HRd.out) (by
              rcases HNf.out.2.2.2.2.2.2 with h | h
              · exact Or.inl (by rw [← HX6n.out]; exact h)
              · refine Or.inr ?_
                rw [List.getD_eq_getElem?_getD, hEw] at h
                exact h) (HX8.out.nil _ hmem) HX8.out.siz hA3 (fun ad e h0 e2 => (HX8.out.own.2 _ hmem).2 ad e h0 (by rw [e2]; rfl))
            have hfr : w7.frozen? ⟨g2, whose * 8 + 7, none⟩ = false := by
              rcases HX8.out.own.1.2 with ⟨e, _⟩ | ⟨gx, cx, cur, e, _, hgx, _⟩
              · cases e
              · injection e with e _ _
                injection e with e
                injection e with e
                rw [← e] at hgx
                exact frozen_of_row w7 g2 _ _ _ (hod.keeps (show w8.drew.heap[g2]? = _ from hgx) id)
            have hD7 : w7.cell? ⟨g2, whose * 8 + 7, none⟩ = some (.slice Aw Ew.data.length cw) := hod.cell (show w8.drew.cell? _ = _ from hD9) id
            obtain ⟨m1, hm1⟩ : ∃ m1, (es ++ [((E2, none, 0) : Ent3)]).length = m1 := ⟨_, rfl⟩
            have k3 : w8.cell? ⟨K.g, 3, none⟩ = some (.slice (some ⟨g2, 0, none⟩) m1 c2) := by rw [← hm1]; exact Joins.cell_of_block HX8.out.par 3
            have k37 : w7.cell? ⟨K.g, 3, none⟩ = some (.slice (some ⟨g2, 0, none⟩) m1 c2) := hod.cell (show w8.drew.cell? _ = _ from k3) id
            rw [hm1] at hwl
            have hwi : (whose : Int) < (m1 : Int) := by omega
            have HFin := Lib.hid (HX8.out.datum HK.out he9 ((Only.refl _ w8).drew.trans' hod) hRd hcd hnd hfd)
            obtain ⟨ld, hld⟩ : ∃ ld, (Ew.data ++ T9).length = ld := ⟨_, rfl⟩
            obtain ⟨lw, hlw⟩ : ∃ lw, Ew.data.length = lw := ⟨_, rfl⟩
            have HLd := Lib.hid (And.intro hld hlw)
            rw [hld, hlw] at hrun
            rw [hlw] at hD9 hD7
            rw [hld] at HFin
            clear hld hlw hnd hfd hRd hcd hmem hatE hrow hEw hA4 hA1 hA2 hA3 had8 hr8 hv1 hv2 hv3 he9 hlenE HXd HX9 HB9 HR9 HRd HDa HTt hg2 hA2e hm1 hu hod
            go_region
            have HGn := Lib.hid (fun p t => show GI ⟨p, t, addData (st.out ++ [E2]) whose T9, grp2⟩ (cg + 1) from HNf.out.2.2.2.2.2.1 T9 (by rw [HL9.out, HX6n.out]) p t)
            obtain ⟨w6', hw6⟩ : ∃ w6', w7.setCell ⟨g2, whose * 8 + 7, none⟩ (.slice Ad ld cd) = w6' := ⟨_, rfl⟩
            rw [hw6] at HFin ⊢
            clear hw6 hrun hfr hD7 hD9 k3 k37 hwl hwi
            by_cases c8 : n < at2 + x6 + padN (at2 + x6)
            · have HT := Lib.hid (align_px_no HK.out HFin.out (by rw [HNk.out]; exact c8))
              have HF := Lib.hid (fun v h => HErrD.out 2 (HD2.out.symm.trans (if_pos c8)) v h)
              clear c8
              go_wp2_with (go_at_call 69; refine HT.out.mono ?_; rintro e w9 ⟨rfl, h8⟩; have H8 := Lib.hid h8; clear h8)
              exact ⟨rfl, HF.out _ H8.out⟩
            · have HT := Lib.hid (align_px HK.out HFin.out (by rw [HNk.out]; show at2 + x6 + padN (at2 + x6) ≤ n; omega))
              have HF := Lib.hid (fun outV es cg ck ow v h h' => HOkD.out _ (HD2.out.symm.trans (if_neg c8)) outV es cg ck ow v h h')
              clear c8
              go_wp2_with (go_at_call 69; refine HT.out.mono ?_; rintro e w9 ⟨rfl, h8, h81⟩; have H8 := Lib.hid h8; clear h8 h81)
              exact HF.out _ _ _ _ _ _ H8.out (HGn.out _ _)
end Go.Proofs.YtpghionmmlidnaaGreatDoor.Walks
namespace Go.Proofs.YtpghionmmlidnaaGreatDoor.Walks
open Go Go.RowKit Go.Maps Go.Proofs.YtpghionmmlidnaaGreatDoor.Aid Go.Proofs.YtpghionmmlidnaaGreatDoor.Pth Go.Proofs.YtpghionmmlidnaaGreatDoor.Own Go.Proofs.YtpghionmmlidnaaGreatDoorW.PrintWords

theorem as63 (v : Value) (w : World) : (Instr.typeAssert (.iface 63 v) 20 63 true).run Tryz.prog w = .ok (.tuple #[v, .bool true]) w := by kernel_rfl
theorem asNil (w : World) : (Instr.typeAssert .nilIface 20 63 true).run Tryz.prog w = .ok (.tuple #[.agg #[.int .i64 0, .int .i64 0], .bool false]) w := by kernel_rfl
section
variable {P : Program} {ops : Array Oper} {Q : Exit → Act → List Frame → World → Prop} {a : Act} {cs : List Frame} {w : World}
theorem opsS_none {i : Nat} {rest : List Nat} {o : Oper} {d : Option Nat} (ho : ops[i]? = some o) (hd : o.dst = d) (hw : Region.wanted o (yielded ops a.tmps) = true) (hr : (execOp a.eval o).run P w = .ok .recover w) (hc : recoverD cs = none) (h : wpOpsS P ops Q rest (a.put d .nilIface) cs w) : wpOpsS P ops Q (i :: rest) a cs w := by
  subst hd
  unfold wpOpsS
  simp only [ho, hw, if_true, hr, hc]
  exact h
theorem opsS_some {i : Nat} {rest : List Nat} {o : Oper} {d : Option Nat} {v : Value} {cs' : List Frame} (ho : ops[i]? = some o) (hd : o.dst = d) (hw : Region.wanted o (yielded ops a.tmps) = true) (hr : (execOp a.eval o).run P w = .ok .recover w) (hc : recoverD cs = some (v, cs')) (h : wpOpsS P ops Q rest (a.put d v) cs' w) : wpOpsS P ops Q (i :: rest) a cs w := by
  subst hd
  unfold wpOpsS
  simp only [ho, hw, if_true, hr, hc]
  exact h
/-- What does not recover is walked as any list. -/
theorem opsS_list (hno : ¬ LetsOut (fun e a' w' => Q e a' cs w')) : ∀ (l : List Nat) (xs : List Oper) (a : Act) (w : World), l.map (ops[·]?) = xs.map some → wpList P ops (fun e a' w' => Q e a' cs w') xs a w → wpOpsS P ops Q l a cs w
  | [], [], _, _, _, h => h
  | [], _ :: _, _, _, hl, _ => by cases hl
  | _ :: _, [], _, _, hl, _ => by cases hl
  | i :: l, o :: xs, a, w, hl, h => by
    rw [List.map_cons, List.map_cons] at hl
    injection hl with h1 h2
    unfold wpOpsS
    unfold wpList at h
    simp only [h1]
    by_cases hw : Region.wanted o (yielded ops a.tmps) = true
    · rw [if_pos hw] at h ⊢
      have h := h.resolve_right fun e => hno e.2
      have h := Oper.wp_mono (fun a' w' h' => opsS_list hno l xs a' w' h2 h') h
      unfold Oper.wp at h
      split
      · rename_i w' hr
        rw [hr] at h
        exact h.elim
      · exact h
    · rw [if_neg hw] at h ⊢
      exact opsS_list hno l xs _ w h2 h
end
section
variable {P : Program} {ops : Array Oper} {Q : Exit → Act → List Frame → World → Prop} {a : Act} {cs : List Frame} {w : World}
theorem opsS_from (k : Nat) {l : List Nat} (hl : l.map (ops[·]?) = (ops.toList.drop k).map some) (hno : ¬ LetsOut (fun e a' w' => Q e a' cs w')) (h : wpList P ops (fun e a' w' => Q e a' cs w') (ops.toList.drop k) a w) : wpOpsS P ops Q l a cs w :=
  opsS_list hno l _ a w hl h
end
set_option maxRecDepth 100000 in
set_option maxHeartbeats 400000 in
theorem catch_idle (p q : Addr) (w : World) :
    CallsD Tryz.prog 32 #[.pointer (some p), .pointer (some q)] .returning w fun e u' w' => e = .returned (.tuple #[]) ∧ u' = .returning ∧ Only (fun _ => False) w w' := by
  refine callsD_of_wpS Tryz.func32 rfl fun c₀ cs hu => ?_
  apply wpS_seq
  apply wpS_region
  generalize hQ : Exit.thenS _ _ = Q
  show wpOpsS _ _ _ (0 :: [1, 2, 3, 4, 5, 6, 7]) _ _ _
  refine opsS_none (d := some 5) rfl rfl (by kernel_rfl) (by kernel_rfl) (by simp [recoverD, hu]) ?_
  have HQ := Lib.hid hQ
  clear hQ
  refine opsS_from 1 ?hl ?hno ?_
  case hl => kernel_rfl
  case hno => rw [← HQ.out]; rintro ⟨a, w, u', h, _⟩; cases h
  simp only [List.drop_succ_cons, List.drop_zero]
  have an := asNil
  go_wp2_with fail
  rw [← HQ.out]
  clear HQ
  show Code.wpS _ _ _ _ _ _
  apply wpS_seq
  generalize hQ : Exit.thenS _ _ = Q2
  have HQ := Lib.hid hQ
  clear hQ
  refine wpS_of_wp ?_
  go_wp2_with fail
  rw [← HQ.out]
  clear HQ
  show Code.wpS _ _ _ _ _ _
  refine wpS_cond (t := false) (by simp [Act.eval, Array.replicate]) ?_
  simp only [Bool.false_eq_true, if_false]
  refine wpS_of_wp (wp_skip ?_)
  exact ⟨rfl, .returning, by rw [← hu], _, by kernel_rfl, rfl, rfl, (Only.refl (fun _ => False) w).alloc _⟩
set_option maxRecDepth 100000 in
set_option maxHeartbeats 4000000 in
theorem catch_fault (gp gq : Nat) (c : Int) (vp : Value) (x : Int) (w : World) (hp : w.heap[gp]? = some (.cells #[vp] 22 (0, 0))) (hq : w.heap[gq]? = some (.cells #[.int .i64 x] 27 (0, 0))) (hpq : gp ≠ gq) :
    CallsD Tryz.prog 32 #[.pointer (some ⟨gp, 0, none⟩), .pointer (some ⟨gq, 0, none⟩)] (.panicking (faultC c)) w fun e u' w' => e = .returned (.tuple #[]) ∧ u' = .panicking [{ v := .iface 63 (.agg #[.int .i64 c, .int .i64 0]), recovered := true }] ∧
      w'.heap[gp]? = some (.cells #[.slice none 0 0] 22 (0, 0)) ∧ w'.heap[gq]? = some (.cells #[.int .i64 c] 27 (0, 0)) ∧ Only (fun g => g = gp ∨ g = gq) w w' := by
  refine callsD_of_wpS Tryz.func32 rfl fun c₀ cs hu => ?_
  apply wpS_seq
  apply wpS_region
  generalize hQ : Exit.thenS _ _ = Q
  show wpOpsS _ _ _ (0 :: [1, 2, 3, 4, 5, 6, 7]) _ _ _
  refine opsS_some (d := some 5) (v := .iface 63 (.agg #[.int .i64 c, .int .i64 0])) (cs' := { c₀ with mode := .panicking [{ v := .iface 63 (.agg #[.int .i64 c, .int .i64 0]), recovered := true }] } :: cs) rfl rfl (by kernel_rfl) (by kernel_rfl) (by simp [recoverD, hu, faultC]) ?_
  have HQ := Lib.hid hQ
  clear hQ
  refine opsS_from 1 ?hl ?hno ?_
  case hl => kernel_rfl
  case hno => rw [← HQ.out]; rintro ⟨a, w, u', h, _⟩; cases h
  simp only [List.drop_succ_cons, List.drop_zero]
  have an := as63
  have op := frozen_of_row w gp 0 _ _ hp
  have oq := frozen_of_row w gq 0 _ _ hq
  go_wp2_with fail
  rw [← HQ.out]
  clear HQ
  show Code.wpS _ _ _ _ _ _
  apply wpS_seq
  generalize hQ : Exit.thenS _ _ = Q2
  have HQ := Lib.hid hQ
  clear hQ
  refine wpS_of_wp ?_
  go_wp2_with fail
  rw [← HQ.out]
  clear HQ
  show Code.wpS _ _ _ _ _ _
  refine wpS_cond (t := true) (by simp [Act.eval, Array.replicate]) ?_
  simp only [if_true]
  refine wpS_of_wp ?_
  obtain ⟨W, hW⟩ : ∃ W, w.alloc (.cells #[.int .i64 c, .int .i64 0] 63) = W := ⟨_, rfl⟩
  have hn : w.heap.size ≠ gp := by have := Only.heap_lt hp; omega
  have hm : w.heap.size ≠ gq := by have := Only.heap_lt hq; omega
  have Hp := Lib.hid (show W.heap[gp]? = some (.cells #[vp] 22 (0, 0)) from by rw [← hW]; exact ((Only.refl (fun _ => False) w).alloc _).keeps hp (fun h => h))
  have Hq := Lib.hid (show W.heap[gq]? = some (.cells #[.int .i64 x] 27 (0, 0)) from by rw [← hW]; exact ((Only.refl (fun _ => False) w).alloc _).keeps hq (fun h => h))
  have Ho := Lib.hid (show Only (fun g => g = gp ∨ g = gq) w W from by rw [← hW]; exact (Only.refl _ w).alloc _)
  obtain ⟨gn, hg⟩ : ∃ gn, w.heap.size = gn := ⟨_, rfl⟩
  have Hn := Lib.hid (show W.heap[gn]? = some (.cells #[.int .i64 c, .int .i64 0] 63 (0, 0)) from by rw [← hW, ← hg]; exact alloc_new _ _)
  rw [hW, hg]
  rw [hg] at hn hm
  clear hW hg hp hq op oq an
  have on : W.cell? ⟨gn, 0, none⟩ = some (.int .i64 c) := Joins.cell_of_block Hn.out 0
  have cp : W.cell? ⟨gp, 0, none⟩ = some vp := Joins.cell_of_block Hp.out 0
  have cq : W.cell? ⟨gq, 0, none⟩ = some (.int .i64 x) := Joins.cell_of_block Hq.out 0
  have op := frozen_of_row W gp 0 _ _ Hp.out
  have oq := frozen_of_row W gq 0 _ _ Hq.out
  have HE := Lib.hid (show ((W.setCell ⟨gp, 0, none⟩ (.slice none 0 0)).setCell ⟨gq, 0, none⟩ (.int .i64 c)).drew.heap[gp]? = some (.cells #[.slice none 0 0] 22 (0, 0)) ∧ ((W.setCell ⟨gp, 0, none⟩ (.slice none 0 0)).setCell ⟨gq, 0, none⟩ (.int .i64 c)).drew.heap[gq]? = some (.cells #[.int .i64 c] 27 (0, 0)) ∧ Only (fun g => g = gp ∨ g = gq) w ((W.setCell ⟨gp, 0, none⟩ (.slice none 0 0)).setCell ⟨gq, 0, none⟩ (.int .i64 c)).drew from by
    have h1 := heap_setCell_same W gp 0 _ _ (.slice none 0 0) Hp.out
    have h2 : (W.setCell ⟨gp, 0, none⟩ (.slice none 0 0)).heap[gq]? = _ := (heap_setCell_other W ⟨gp, 0, none⟩ gq (.slice none 0 0) (Ne.symm hpq)).trans Hq.out
    have h3 := heap_setCell_same _ gq 0 _ _ (.int .i64 c) h2
    exact ⟨(heap_setCell_other _ ⟨gq, 0, none⟩ gp _ hpq).trans h1, h3, ((Ho.out.setCell (.inl (.inl rfl)) _).setCell (.inl (.inr rfl)) _).drew⟩)
  go_region <;> exact ⟨rfl, _, rfl, _, by kernel_rfl, rfl, rfl, HE.out⟩
end Go.Proofs.YtpghionmmlidnaaGreatDoor.Walks
namespace Go.Proofs.YtpghionmmlidnaaGreatDoor.Walks
open Go Go.RowKit Go.Proofs.YtpghionmmlidnaaGreatDoor.Aid Go.Proofs.YtpghionmmlidnaaGreatDoor.Pth Go.Proofs.YtpghionmmlidnaaGreatDoor.OwnU Go.Proofs.YtpghionmmlidnaaGreatDoorW.PrintWords

def arrV (vs : List Int) : Array Value := (vs.map (Value.int .i64)).toArray
theorem arrV_set (vs : List Int) (i : Nat) (x : Int) : (arrV vs).setIfInBounds i (.int .i64 x) = arrV (vs.set i x) := by
  unfold arrV
  rw [List.map_set]
  simp
theorem arrV_get {vs : List Int} {i : Nat} (h : i < vs.length) : (arrV vs)[i]? = some (.int .i64 (vs.getD i 0)) := by
  unfold arrV
  rw [List.getElem?_toArray, List.getElem?_map, List.getElem?_eq_getElem h, List.getD_eq_getElem?_getD, List.getElem?_eq_getElem h]
  rfl
/-- The numbers as they are written. -/
def numsL (vs : List Int) (n m : Nat) : List Int := (vs.set 6 (n : Int)).set 11 ((m : Int) + 1)
def hexes (ks : List Int) : List Int := ks.flatMap (fun k => ints (hexT 8 k.toNat))
def magic : Str := [48, 55, 48, 55, 48, 49]
def recL (l : List Int) (vs : List Int) (name dt : Str) : List Int := fillL (fillL (l ++ ints magic ++ hexes (numsL vs dt.length name.length) ++ ints name ++ [0]) ++ ints dt)
def RecPost (base : Nat) (v0 : Value) (l : List Int) (w : World) (x : Ending) (w' : World) : Prop := ∃ v, x = .returned v ∧ OwnU base w' v l ∧ Grows v0 w v w'
theorem size57 : (Tryz.prog.info? 57).map (·.size) = some 13 := by kernel_rfl
theorem ownU_some {base : Nat} {w : World} {v : Value} {l : List Int} (h : OwnU base w v l) (h0 : 0 < l.length) : v ≠ .slice none 0 0 := fun e => by
  obtain ⟨A, c, e2, _⟩ := ownU_rd h
  rw [e2] at e
  injection e with _ e3 _
  omega
theorem fillL_len (l : List Int) : l.length ≤ (fillL l).length ∧ (fillL l).length ≤ l.length + 3 := by
  unfold fillL padN
  rw [List.length_append, List.length_replicate]
  omega
theorem index57 (w : World) (cs : Array Value) (i : Nat) (hi : i < 13) (y : Int) (h : cs[i]? = some (.int .i64 y)) : (Instr.index 57 (.agg cs) (.int .i64 (i : Int))).run Tryz.prog w = .ok (.int .i64 y) w := by
  obtain ⟨ti, hti, _, hs1, _, _⟩ := OwnJ.infoJ_any
  unfold Instr.index
  simp [asIntOf, run_underlying Tryz.underlying57, sizeOf, typeInfo, hti, hs1, part, isAgg, run_underlying Tryz.underlying3, hi, h]
theorem hexes_snoc {ks : List Int} {i : Nat} (h : i < ks.length) : hexes (ks.take (i + 1)) = hexes (ks.take i) ++ ints (hexT 8 (ks.getD i 0).toNat) := by
  unfold hexes
  rw [List.take_add_one, List.getElem?_eq_getElem h, List.flatMap_append, List.getD_eq_getElem?_getD, List.getElem?_eq_getElem h]
  simp
theorem hexes_len (ks : List Int) : (hexes ks).length = 8 * ks.length := by
  unfold hexes
  induction ks with
  | nil => rfl
  | cons k r ih => rw [List.flatMap_cons, List.length_append, ih, ints_len, hexT_len, List.length_cons]; omega
set_option maxRecDepth 100000 in
set_option maxHeartbeats 4000000 in
theorem record_any {base : Nat} {w : World} {v : Value} {l : List Int} {vs : List Int} {name dt : Str} {A : Option Addr} {n c : Nat} (hv : vs.length = 13) (hx : ∀ x ∈ vs, 0 ≤ x ∧ x ≤ 4294967295) (hO : OwnU base w v l) (hb : base ≤ w.heap.size) (hl : l.length ≤ 400000) (hnm : name.length ≤ 6000) (hd : dt.length = n) (hdl : n ≤ 6000) (hR : RdU w A dt) (hfar : ∀ ad, A = some ad → some ad.block ≠ v.ownBlock) :
    Calls Tryz.prog 28 #[v, .agg (arrV vs), .string (B name), .slice A n c] w (RecPost base v (recL l vs name dt) w) := by
  have HO := Lib.hid hO
  have HB := Lib.hid hb
  have HR := Lib.hid (fun u (h : Only (fun k => some k = v.ownBlock) w u) => show RdK .u8 u A (ints dt) from fun h0 => by
    obtain ⟨ad, e, hc⟩ := hR h0
    exact ⟨ad, e, fun j hj => h.cell (hc j hj) (by
      have : (ad.add j).block = ad.block := by unfold Addr.add; split <;> rfl
      rw [this]; exact hfar ad e)⟩)
  have HV := Lib.hid hv
  have HD := Lib.hid hd
  have hnb : (B name).size = name.length := B_size name
  have b1 : name.length ≤ 6000 := hnm
  obtain ⟨S, hS⟩ : ∃ S, B name = S := ⟨_, rfl⟩
  rw [hS] at hnb ⊢
  have HS := Lib.hid hS
  obtain ⟨m, hm⟩ : ∃ m, name.length = m := ⟨_, rfl⟩
  rw [hm] at b1 hnb
  have HMm := Lib.hid hm
  have c6 : (w.alloc (.cells (arrV vs) 57)).cell? ⟨w.heap.size, 6, none⟩ = some (.int .i64 (vs.getD 6 0)) := (Joins.cell_of_block (alloc_new w _) 6).trans (arrV_get (by omega))
  have hb1 := alloc_new w (.cells (arrV vs) 57)
  have ho1 := (Only.refl (fun _ => False) w).alloc (.cells (arrV vs) 57)
  obtain ⟨V, hV⟩ : ∃ V, w.alloc (.cells (arrV vs) 57) = V := ⟨_, rfl⟩
  obtain ⟨g, hg⟩ : ∃ g, w.heap.size = g := ⟨_, rfl⟩
  have HGV := Lib.hid (And.intro hV hg)
  rw [hV, hg] at c6 hb1
  rw [hV] at ho1
  have f6 : V.frozen? ⟨g, 6, none⟩ = false := by simp [World.frozen?, hb1]
  have h2 : (V.setCell ⟨g, 6, none⟩ (.int .i64 (n : Int))).heap[g]? = some (.cells (arrV (vs.set 6 (n : Int))) 57 (0, 0)) := by rw [← arrV_set]; exact Joins.block_setCell hb1 _
  have c11 : (V.setCell ⟨g, 6, none⟩ (.int .i64 (n : Int))).cell? ⟨g, 11, none⟩ = some (.int .i64 ((vs.set 6 (n : Int)).getD 11 0)) := (Joins.cell_of_block h2 11).trans (arrV_get (by rw [List.length_set]; omega))
  have f11' : (V.setCell ⟨g, 6, none⟩ (.int .i64 (n : Int))).frozen? ⟨g, 11, none⟩ = false := by simp [World.frozen?, h2]
  have h3 : ((V.setCell ⟨g, 6, none⟩ (.int .i64 (n : Int))).setCell ⟨g, 11, none⟩ (.int .i64 ((m : Int) + 1))).heap[g]? = some (.cells (arrV (numsL vs n m)) 57 (0, 0)) := by unfold numsL; rw [← arrV_set]; exact Joins.block_setCell h2 _
  have HX := Lib.hid hx
  have H3 := Lib.hid h3
  have HO1 := Lib.hid ho1
  clear hO hb hR hfar hv hd hS hm hV hg hb1 h2 h3 ho1 hx hnm
  go_enter Tryz.func28, Tryz.ntmps28
  go_upto_region 1 with (fail)
  change Code.wp Tryz.prog _ _ _ (w.alloc (.cells (arrV vs) 57))
  rw [HGV.out.1, HGV.out.2]
  go_upto_region 2 with (fail)
  have HGw := Lib.hid (show w.heap.size ≤ g from Nat.le_of_eq HGV.out.2)
  have HOn := Lib.hid ((HO1.out.setCell (p := ⟨g, 6, none⟩) (Or.inr HGw.out) (.int .i64 (n : Int))).setCell (p := ⟨g, 11, none⟩) (Or.inr HGw.out) (.int .i64 ((m : Int) + 1)))
  obtain ⟨W3, hW3⟩ : ∃ W3, (V.setCell ⟨g, 6, none⟩ (.int .i64 (n : Int))).setCell ⟨g, 11, none⟩ (.int .i64 ((m : Int) + 1)) = W3 := ⟨_, rfl⟩
  rw [hW3] at H3 HOn ⊢
  have HO3 := Lib.hid (show OwnU base W3 v l from ownU_only HO.out HOn.out (fun _ _ => id))
  have HKl := Lib.hid (show (numsL vs n m).length = 13 by unfold numsL; rw [List.length_set, List.length_set, HV.out])
  have HKr := Lib.hid (show ∀ i, i < 13 → ∃ y : Nat, (numsL vs n m).getD i 0 = (y : Int) ∧ y ≤ 4294967295 from fun i hi => by
    have hmem : (numsL vs n m).getD i 0 ∈ numsL vs n m := by rw [List.getD_eq_getElem?_getD, List.getElem?_eq_getElem (by rw [HKl.out]; exact hi)]; exact List.getElem_mem _
    have hr : ∀ x ∈ numsL vs n m, 0 ≤ x ∧ x ≤ 4294967295 := fun x hx => by
      unfold numsL at hx
      rcases List.mem_or_eq_of_mem_set hx with hx | hx
      · rcases List.mem_or_eq_of_mem_set hx with hx | hx
        · exact HX.out x hx
        · omega
      · omega
    obtain ⟨h0, h1⟩ := hr _ hmem
    exact ⟨((numsL vs n m).getD i 0).toNat, by omega, by omega⟩)
  obtain ⟨ks, hks⟩ : ∃ ks, numsL vs n m = ks := ⟨_, rfl⟩
  have HKs := Lib.hid hks
  rw [hks] at H3 HKl HKr
  have HRg := Lib.hid (show ∀ u, Only (fun k => some k = v.ownBlock) W3 u → u.rangeAt g 0 (ks.map (Value.int .i64)) from fun u hu j x hj => by
    have hng : ¬ some g = v.ownBlock := fun e => by have := (ownU_lt HO.out e).2; have := HGw.out; omega
    rw [Joins.cell_of_block (hu.keeps H3.out hng)]
    unfold arrV
    rw [List.getElem?_toArray, Nat.zero_add]
    exact hj)
  clear hks hW3 c6 c11 f6 f11' H3 HO1 HGV
  go_wp2_with (first
    | (with_reducible refine gate 21 rfl ?_
       refine appUs (base := base) rfl _ _ rfl v l magic rfl rfl HO3.out (Nat.le_trans HB.out HOn.out.size) (by show l.length + 6 ≤ _; omega) ?_
       intro v4 w4 hO4 ho4 hat4
       have HO4 := Lib.hid hO4
       have HR4 := Lib.hid (HRg.out _ ho4)
       have HU4 := Lib.hid (((Grows.refl v w).quiet HOn.out).trans (Grows.of ho4 hat4))
       clear hO4 ho4 hat4)
    | (with_reducible refine gate 22 rfl ?_
       refine wpList_load_mid rfl 57 _ rfl g 0 rfl _ _ HR4.out Tryz.underlying57 rfl (by rw [List.length_map, HKl.out]; exact size57) ?_))
  go_loopw [0, 23] (fun v0 v23 u => ∃ i : Nat, v23 = .int .i64 (i : Int) ∧ i ≤ 13 ∧ Hid (OwnU base u v0 (l ++ ints magic ++ hexes (ks.take i))) ∧ Hid (Grows v w v0 u)) (fun _ i _ => 13 - (intOf i).toNat)
  case atStart => exact ⟨0, rfl, by omega, Lib.hid (by rw [List.take_zero]; show OwnU base w4 v4 (l ++ ints magic ++ []); rw [List.append_nil]; exact HO4.out), HU4⟩
  case round =>
    clear HO4 HU4 HR4
    obtain ⟨i, rfl, hi, HOi, HUi⟩ := hrel
    by_cases ci : i < 13
    · have d1 : decide ((i : Int) < 13) = true := decide_eq_true (by omega)
      have d2 : (i : Int) < 13 := by omega
      obtain ⟨y, hy, hy2⟩ := HKr.out i ci
      have hget : (List.map (Value.int .i64) ks)[i]? = some (.int .i64 (y : Int)) := by
        rw [List.getElem?_map, List.getElem?_eq_getElem (by rw [HKl.out]; exact ci), ← hy, List.getD_eq_getElem?_getD, List.getElem?_eq_getElem (by rw [HKl.out]; exact ci)]
        rfl
      have hidx : ∀ u, (Instr.index 57 (.agg (ks.map (Value.int .i64)).toArray) (.int .i64 (i : Int))).run Tryz.prog u = .ok (.int .i64 (y : Int)) u := fun u => index57 u _ i ci y (by rw [List.getElem?_toArray]; exact hget)
      have HHs := Lib.hid (show hexes (ks.take (i + 1)) = hexes (ks.take i) ++ ints (hexT 8 y) by rw [hexes_snoc (by rw [HKl.out]; exact ci), hy]; rfl)
      have HP := Lib.hid (fun u => putHex_any y hy2 u)
      have HLn := Lib.hid (show (l ++ ints magic ++ hexes (ks.take i)).length ≤ l.length + 6 + 104 by rw [List.length_append, List.length_append, hexes_len, ints_len, List.length_take]; show l.length + 6 + _ ≤ _; omega)
      clear hy hget
      go_wp2_with (first
        | (go_at_call 58; refine (HP.out _).mono ?_; rintro x w5 ⟨rfl, ho5⟩; have HO5 := Lib.hid (ownU_only HOi.out ho5 (fun _ _ => id)); have HU5 := Lib.hid (HUi.out.quiet ho5); clear ho5)
        | (with_reducible refine gate 33 rfl ?_
           refine appUs (base := base) rfl _ _ rfl u0 _ (hexT 8 y) rfl rfl HO5.out (Nat.le_trans HB.out HU5.out.only.size) (by have := HLn.out; rw [hexT_len]; omega) ?_
           intro v6 w6 hO6 ho6 hat6
           have HO6 := Lib.hid hO6
           have HU6 := Lib.hid (HU5.out.trans (Grows.of ho6 hat6))
           clear hO6 ho6 hat6))
      exact ⟨⟨i + 1, by simp, by omega, Lib.hid (by rw [HHs.out, ← List.append_assoc]; exact HO6.out), HU6⟩, by simp [intOf]; omega⟩
    · obtain rfl : i = 13 := by omega
      have d1 : decide (((13 : Nat) : Int) < 13) = false := by decide
      have hall : ks.take 13 = ks := List.take_of_length_le (by rw [HKl.out]; exact Nat.le_refl _)
      rw [hall] at HOi
      have HL0 := Lib.hid (show (l ++ ints magic ++ hexes ks).length = l.length + 6 + 104 by rw [List.length_append, List.length_append, hexes_len, ints_len, HKl.out]; rfl)
      rw [show ((13 : Nat) : Int) = 13 from rfl]
      clear hall d1
      go_wp2_with (first
        | (with_reducible refine gate 37 rfl ?_
           refine appUs (base := base) rfl _ _ rfl u0 _ name rfl (by rw [HS.out]; rfl) HOi.out (Nat.le_trans HB.out HUi.out.only.size) (by have := HL0.out; have := HMm.out; omega) ?_
           intro v6 w6 hO6 ho6 hat6
           have HO6 := Lib.hid hO6
           have HU6 := Lib.hid (HUi.out.trans (Grows.of ho6 hat6))
           clear hO6 ho6 hat6)
        | (with_reducible refine gate 39 rfl ?_
           refine appU (base := base) rfl _ _ rfl v6 (some ⟨w6.heap.size, 0, none⟩) 1 1 _ [0] rfl rfl rfl (fun h => by cases h) (ownU_only HO6.out ((Only.refl (fun _ => False) w6).alloc _) (fun _ _ => id)) (rd_zeroF w6) (by have h1 := HB.out; have h2 := HU6.out.only.size; rw [alloc_size]; omega) (by have h1 := HL0.out; have h2 := HMm.out; rw [List.length_append, ints_len]; show _ + 1 ≤ _; omega) ?_
           intro v7 w7 hO7 ho7 hat7
           have HO7 := Lib.hid hO7
           have HU7 := Lib.hid ((HU6.out.quiet ((Only.refl (fun _ => False) w6).alloc _)).trans (Grows.of ho7 hat7))
           clear hO7 ho7 hat7)
        | (go_at_call 59
           first
             | ((with_reducible refine (fill_any HO9.out (Nat.le_trans HB.out HU9.out.only.size) HL9.out).mono ?_)
                rintro x w10 ⟨v10, rfl, hO10, hg10⟩
                have HO10 := Lib.hid hO10
                have HU10 := Lib.hid (HU9.out.trans hg10)
                clear hO10 hg10)
             | ((with_reducible refine (fill_any HO7.out (Nat.le_trans HB.out HU7.out.only.size) (by have h1 := HL0.out; have h2 := HMm.out; rw [List.length_append, List.length_append, ints_len, h1, h2, List.length_singleton]; omega)).mono ?_)
                rintro x w8 ⟨v8, rfl, hO8, hg8⟩
                have HO8 := Lib.hid hO8
                have HU8 := Lib.hid (HU7.out.trans hg8)
                have HL8 := Lib.hid (show 0 < (fillL (l ++ ints magic ++ hexes ks ++ ints name ++ [0])).length ∧ (fillL (l ++ ints magic ++ hexes ks ++ ints name ++ [0])).length ≤ 410000 from by
                  have h0 := fillL_len (l ++ ints magic ++ hexes ks ++ ints name ++ [0])
                  have h1 := HL0.out
                  have h2 := HMm.out
                  have h3 : (l ++ ints magic ++ hexes ks ++ ints name ++ [0]).length = l.length + 6 + 104 + m + 1 := by rw [List.length_append, List.length_append, ints_len, h1, h2, List.length_singleton]
                  omega)
                clear hO8 hg8))
        | (with_reducible refine gate 43 rfl ?_
           refine appU (base := base) rfl _ _ rfl v8 A n c _ (ints dt) rfl rfl (by rw [ints_len]; exact HD.out) (fun _ => ownU_some HO8.out HL8.out.1) HO8.out (HR.out _ HU8.out.only) (Nat.le_trans HB.out HU8.out.only.size) (by have h1 := HL8.out.2; have h2 := HD.out; rw [ints_len]; omega) ?_
           intro v9 w9 hO9 ho9 hat9
           have HO9 := Lib.hid hO9
           have HU9 := Lib.hid (HU8.out.trans (Grows.of ho9 hat9))
           have HL9 := Lib.hid (show (fillL (l ++ ints magic ++ hexes ks ++ ints name ++ [0]) ++ ints dt).length ≤ 900000 by have h1 := HL8.out.2; have h2 := HD.out; rw [List.length_append, ints_len]; omega)
           clear hO9 ho9 hat9))
      go_ret
      exact ⟨_, rfl, by unfold recL; rw [HD.out, HMm.out, HKs.out]; exact HO10.out, HU10.out⟩
end Go.Proofs.YtpghionmmlidnaaGreatDoor.Walks
namespace Go.Proofs.YtpghionmmlidnaaGreatDoor.Walks
open Go Go.RowKit Go.Maps Go.Proofs.YtpghionmmlidnaaGreatDoor.Aid Go.Proofs.YtpghionmmlidnaaGreatDoor.Pth Go.Proofs.YtpghionmmlidnaaGreatDoor.Own Go.Proofs.YtpghionmmlidnaaGreatDoor.OwnJ Go.Proofs.YtpghionmmlidnaaGreatDoorW.PrintWords

def fstep (t : Str) (s : Int × Nat) (e : Ent) : Int × Nat := (if e.kind = 1 then (if e.path = t then ((s.2 : Int) + 1) else s.1) else s.1, s.2 + 1)
/-- The number of the last file of a path; 0: none. -/
def fileN (l : List Ent) (t : Str) : Int := (l.foldl (fstep t) (0, 0)).1
def mstep (s : DataW Unit × Nat) (e : Ent) : DataW Unit × Nat := (if e.kind = 1 then s.1.put (.string e.path) (.lit (.int .i64 ((s.2 : Int) + 1))) else s.1, s.2 + 1)
def imap (l : List Ent) : DataW Unit := (l.foldl mstep (.map [], 0)).1
theorem fstep_snd (t : Str) (l : List Ent) : ∀ (s : Int × Nat), (l.foldl (fstep t) s).2 = s.2 + l.length := by
  induction l with
  | nil => intro s; rfl
  | cons e r ih => intro s; rw [List.foldl_cons, ih, List.length_cons]; show s.2 + 1 + _ = _; omega
theorem mstep_snd (l : List Ent) : ∀ (s : DataW Unit × Nat), (l.foldl mstep s).2 = s.2 + l.length := by
  induction l with
  | nil => intro s; rfl
  | cons e r ih => intro s; rw [List.foldl_cons, ih, List.length_cons]; show s.2 + 1 + _ = _; omega
theorem imap_snoc (l : List Ent) (e : Ent) : imap (l ++ [e]) = if e.kind = 1 then (imap l).put (.string e.path) (.lit (.int .i64 ((l.length : Int) + 1))) else imap l := by
  unfold imap
  rw [List.foldl_append, List.foldl_cons, List.foldl_nil]
  have h := mstep_snd l (.map [], 0)
  show (if e.kind = 1 then ((l.foldl mstep (.map [], 0)).1).put (.string e.path) (.lit (.int .i64 (((l.foldl mstep (.map [], 0)).2 : Int) + 1))) else (l.foldl mstep (.map [], 0)).1) = _
  rw [h, Nat.zero_add]
theorem imap_from (t : Str) : ∀ (l : List Ent) (m : DataW Unit) (k : Int) (n : Nat), Maps.IsMap m → m.atKey (.string t) (.lit (.int .i64 0)) = .lit (.int .i64 k) →
    ((l.foldl mstep (m, n)).1).atKey (.string t) (.lit (.int .i64 0)) = .lit (.int .i64 (l.foldl (fstep t) (k, n)).1)
  | [], m, k, n, _, h => h
  | e :: r, m, k, n, hm, h => by
    rw [List.foldl_cons, List.foldl_cons]
    unfold mstep fstep
    dsimp only
    by_cases c1 : e.kind = 1
    · rw [if_pos c1, if_pos c1]
      refine imap_from t r _ _ _ (hm.put _ _) ?_
      by_cases c : e.path = t
      · rw [if_pos c, c, Maps.atKey_put_same (k := .string t) hm trivial]
      · rw [if_neg c, Maps.atKey_put_other (k := .string e.path) (k' := .string t) (fun h2 => c ((Lit.string.inj h2).symm)), h]
    · rw [if_neg c1, if_neg c1]
      exact imap_from t r _ _ _ hm h
theorem imap_at (l : List Ent) (t : Str) : (imap l).atKey (.string t) (.lit (.int .i64 0)) = .lit (.int .i64 (fileN l t)) := imap_from t l _ _ _ Maps.isMap_empty rfl
def inoAt (pre : List Ent) (E : Ent) : Int := if E.kind = 4 then fileN pre E.target else (pre.length : Int) + 1
def inoTo (l : List Ent) (i : Nat) : List Int := (List.range i).map (fun j => inoAt (l.take j) (l.getD j e0))
theorem inoTo_succ (l : List Ent) (i : Nat) : inoTo l (i + 1) = inoTo l i ++ [inoAt (l.take i) (l.getD i e0)] := by
  unfold inoTo
  rw [List.range_succ, List.map_append]
  rfl
theorem inoTo_len (l : List Ent) (i : Nat) : (inoTo l i).length = i := by simp [inoTo]
/-- The numbers of a list's entries. -/
def inoL (l : List Ent) : List Int := inoTo l l.length
def InoPost (l : List Ent) (w : World) (x : Ending) (w' : World) : Prop := ∃ A c, x = .returned (.slice A l.length c) ∧ l.length ≤ c ∧ RdK .i64 w' A (inoL l) ∧ Only (fun _ => False) w w'
theorem ino_end {l : List Ent} {base : Nat} {w u : World} {v : Value} (hO : OwnJ base u v (inoTo l l.length)) (hU : Only (fun _ => False) w u) : InoPost l w (.returned v) u := by
  obtain ⟨A, c, rfl, h1, h2⟩ := ownJ_rd hO
  rw [inoTo_len] at h1 ⊢
  exact ⟨A, c, rfl, h1, h2, hU⟩
set_option maxRecDepth 100000 in
set_option maxHeartbeats 4000000 in
theorem inodes_any {w : World} {A : Option Addr} {l : List Ent} {n c : Nat} {M : Nat → Option Addr × Nat} (hn : l.length = n) (hl : n ≤ 100000) (hR : RdE w A l M) (hE : EsOk l) :
    Calls Tryz.prog 14 #[.slice A n c] w (InoPost l w) := by
  have hmm := @run_makeMap Tryz.prog
  have HN := Lib.hid hn
  have HR := Lib.hid hR
  have HE := Lib.hid hE
  have b1 : n ≤ 100000 := hl
  clear hn hl hR hE
  go_enter Tryz.func14, Tryz.ntmps14
  go_wp2_with fail
  have HO1 := Lib.hid (show Only (fun _ => False) w (w.alloc (.map #[] 0)) from (Only.refl _ w).alloc _)
  have HMp := Lib.hid (show ∃ cnt, (w.alloc (.map #[] 0)).ownsMap Tryz.prog 9 (plainElem Tryz.prog 3) w.heap.size cnt (imap (l.take 0)) ∧ cnt ≤ 0 from ⟨0, World.ownsMap_made _ _ _ _, Nat.le_refl _⟩)
  obtain ⟨V, hV⟩ : ∃ V, w.alloc (.map #[] 0) = V := ⟨_, rfl⟩
  obtain ⟨gm, hgm⟩ : ∃ gm, w.heap.size = gm := ⟨_, rfl⟩
  rw [hV] at HO1 HMp ⊢
  rw [hgm] at HMp ⊢
  have HG := Lib.hid (show w.heap.size ≤ gm from Nat.le_of_eq hgm)
  clear hV hgm hmm
  go_loopw [3, 11] (fun v3 v11 u => ∃ i : Nat, v11 = .int .i64 (i : Int) ∧ i ≤ n ∧ Hid (OwnJ (gm + 1) u v3 (inoTo l i)) ∧ Hid (∃ cnt, u.ownsMap Tryz.prog 9 (plainElem Tryz.prog 3) gm cnt (imap (l.take i)) ∧ cnt ≤ i) ∧ Hid (Only (fun _ => False) w u)) (fun _ i _ => n - (intOf i).toNat)
  case atStart => exact ⟨0, rfl, by omega, Lib.hid (ownJ_nil _ _), HMp, HO1⟩
  case round =>
    clear HMp HO1
    clear V
    obtain ⟨i, rfl, hi, HO, HMp, HU⟩ := hrel
    by_cases ci : i < n
    · have d1 : decide ((i : Int) < (n : Int)) = true := decide_eq_true (by omega)
      have d1' : decide (i < n) = true := decide_eq_true ci
      have d2 : (i : Int) < (n : Int) := by omega
      have hil : i < l.length := by rw [HN.out]; exact ci
      obtain ⟨E, hE⟩ : ∃ E, l.getD i e0 = E := ⟨_, rfl⟩
      have hE2 : l[i]? = some E := by
        rw [← hE, List.getD_eq_getElem?_getD, List.getElem?_eq_getElem hil]; rfl
      obtain ⟨hAt, ad, hA, hcell⟩ := (HR.out.only HU.out) i E hE2
      obtain ⟨hEo, hk0, hk1⟩ := HE.out E (List.mem_of_getElem? hE2)
      subst hA
      obtain ⟨B1, hB1⟩ : ∃ B1, (M i).1 = B1 := ⟨_, rfl⟩
      obtain ⟨c1, hc1⟩ : ∃ c1, (M i).2 = c1 := ⟨_, rfl⟩
      rw [hB1, hc1] at hAt hcell
      have HC := Lib.hid (show ∀ j v, (erow E B1 c1)[j]? = some v → wr.cell? ((ad.add (i * 8)).add j) = some v from fun j v h => by rw [add_add]; exact hcell j v h)
      have HEo := Lib.hid hEo
      have HTk := Lib.hid (show l.take (i + 1) = l.take i ++ [E] from take_snoc hil hE)
      have HTl := Lib.hid (show (l.take i).length = i by rw [List.length_take]; omega)
      have HIs := Lib.hid (show inoTo l (i + 1) = inoTo l i ++ [inoAt (l.take i) E] by rw [inoTo_succ, hE])
      obtain ⟨cnt, hmp, hcnt⟩ := HMp.out
      clear hE hE2 hAt hcell hEo hk0 hk1 hB1 hc1 hil HMp
      go_upto_region 6 with (first
        | ((with_reducible refine gate 15 rfl ?_); refine load_entA rfl _ rfl rfl HC.out ?_)
        | ((with_reducible refine gate_store 47 rfl ?_); refine store_newE rfl rfl E B1 c1 _ _ rfl rfl rfl ?_; intro w3 hb3 ho3))
      have HB3 := Lib.hid hb3
      have HM3 := Lib.hid (map_only hmp ho3 id)
      have HO3 := Lib.hid (show OwnJ (gm + 1) w3 u3 (inoTo l i) from ownJ_only HO.out ho3 (fun _ _ => id))
      replace HU := Lib.hid (HU.out.trans' ho3)
      have HCn := Lib.hid hcnt
      obtain ⟨gx, hgx⟩ : ∃ gx, wr.heap.size = gx := ⟨_, rfl⟩
      rw [hgx] at HB3 ⊢
      clear hb3 ho3 hmp hgx HC HR HO hcnt
      clear wr
      have k0 : w3.cell? ⟨gx, 0, none⟩ = some (.string (B E.path)) := Joins.cell_of_block HB3.out 0
      have k1 : w3.cell? ⟨gx, 1, none⟩ = some (.int .i64 E.kind) := Joins.cell_of_block HB3.out 1
      have k6 : w3.cell? ⟨gx, 6, none⟩ = some (.string (B E.target)) := Joins.cell_of_block HB3.out 6
      have HKey := Lib.hid (key_B HEo.out.path)
      have HKt := Lib.hid (key_B HEo.out.target)
      have HAt := Lib.hid (imap_at (l.take i) E.target)
      have HSn := Lib.hid (imap_snoc (l.take i) E)
      have HGm := Lib.hid (show gm < w3.heap.size by obtain ⟨es, ck, h9, _⟩ := HM3.out; exact Only.heap_lt h9)
      have HOb := Lib.hid (fun k (hk : some k = u3.ownBlock) => (ownJ_lt HO3.out hk).1)
      obtain ⟨lk, hlk⟩ : ∃ lk, fileN (l.take i) E.target = lk := ⟨_, rfl⟩
      rw [hlk] at HAt
      have HIn := Lib.hid (show inoAt (l.take i) E = if E.kind = 4 then lk else (i : Int) + 1 by unfold inoAt; rw [hlk, HTl.out])
      clear hlk
      by_cases q1 : E.kind = 1
      · have f1 : (E.kind == 1) = true := beq_iff_eq.mpr q1
        have HV := Lib.hid (HIn.out.trans (if_neg (show ¬ E.kind = 4 by omega)))
        have HSn1 := Lib.hid (HSn.out.trans (if_pos q1))
        clear q1 HIn HSn
        go_wp2_with (first
          | (at_mapUpdate
             refine wpList_mapUpdate_own _ rfl _ _ _ 61 rfl 9 3 keyed9 Tryz.underlying61 _ gm cnt _ rfl HM3.out (by have := HCn.out; unfold maxLen; omega) _ _ _ rfl rfl HKey.out _ [] (plainElem_int Tryz.underlying3 (WalkArith.wf_i64 (by omega))) ?_
             intro w5 hown5 hgrow5
             have HM5 := Lib.hid hown5
             have HL5 := Lib.hid (only_grown hgrow5)
             have HO5 := Lib.hid (show OwnJ (gm + 1) w5 u3 (inoTo l i) from ownJ_only HO3.out HL5.out (fun b hb e => by have := HOb.out b hb; omega))
             have HS5 := Lib.hid (show gm < w5.heap.size from Nat.lt_of_lt_of_le HGm.out HL5.out.size)
             clear hown5 hgrow5)
          | ((with_reducible refine gate 35 rfl ?_)
             refine appJ (base := gm + 1) rfl _ _ rfl u3 (some ⟨w5.heap.size, 0, none⟩) 1 1 (inoTo l i) [(i : Int) + 1] rfl rfl rfl (fun h => by cases h) ?_ (rdJ_one _) ?_ ?_ ?_
             · exact ownJ_only HO5.out ((Only.refl (fun _ => False) w5).alloc _) (fun _ _ => id)
             · have := HS5.out; rw [alloc_size]; omega
             · rw [inoTo_len]; show i + 1 ≤ _; omega
             intro v7 w7 hO7 ho7
             have HO7 := Lib.hid hO7
             have HL7 := Lib.hid (((Only.refl (fun k => some k = u3.ownBlock) w5).alloc _).trans' ho7)
             clear hO7 ho7))
        refine ⟨⟨i + 1, by simp, by omega, Lib.hid (by rw [HIs.out, HV.out]; exact HO7.out), Lib.hid ⟨_, by rw [HTk.out, HSn1.out, HTl.out]; exact map_only HM5.out HL7.out (fun e => by have := HOb.out gm e; omega), ?_⟩, Lib.hid ((HU.out.trans HL5.out (fun k hk => Or.inr (by rw [hk]; exact HG.out))).trans HL7.out (fun k hk => Or.inr (by have := HOb.out k hk; have := HG.out; omega)))⟩, by simp [intOf]; omega⟩
        have := HCn.out
        omega
      · have f1 : (E.kind == 1) = false := by simp [q1]
        have HSn1 := Lib.hid (HSn.out.trans (if_neg q1))
        by_cases q4 : E.kind = 4
        · have f4 : (E.kind == 4) = true := beq_iff_eq.mpr q4
          have HV := Lib.hid (HIn.out.trans (if_pos q4))
          clear q1 q4 HIn HSn
          go_wp2_with (first
            | (with_reducible refine gate 31 rfl ?_
               refine wpList_lookup_own_int _ rfl _ _ 61 rfl 9 3 .i64 keyed9 Tryz.underlying61 Tryz.underlying3 (zero3 _) gm cnt _ rfl HM3.out _ _ rfl HKt.out ?_
               intro cc hat hwc
               obtain rfl : lk = cc := by rw [HAt.out] at hat; injection hat with h8; injection h8
               clear hat hwc)
            | ((with_reducible refine gate 35 rfl ?_)
               refine appJ (base := gm + 1) rfl _ _ rfl u3 (some ⟨w3.heap.size, 0, none⟩) 1 1 (inoTo l i) [lk] rfl rfl rfl (fun h => by cases h) ?_ (rdJ_one _) ?_ ?_ ?_
               · exact ownJ_only HO3.out ((Only.refl (fun _ => False) w3).alloc _) (fun _ _ => id)
               · have := HGm.out; rw [alloc_size]; omega
               · rw [inoTo_len]; show i + 1 ≤ _; omega
               intro v7 w7 hO7 ho7
               have HO7 := Lib.hid hO7
               have HL7 := Lib.hid (((Only.refl (fun k => some k = u3.ownBlock) w3).alloc _).trans' ho7)
               clear hO7 ho7))
          refine ⟨⟨i + 1, by simp, by omega, Lib.hid (by rw [HIs.out, HV.out]; exact HO7.out), Lib.hid ⟨cnt, by rw [HTk.out, HSn1.out]; exact map_only HM3.out HL7.out (fun e => by have := HOb.out gm e; omega), ?_⟩, Lib.hid (HU.out.trans HL7.out (fun k hk => Or.inr (by have := HOb.out k hk; have := HG.out; omega)))⟩, by simp [intOf]; omega⟩
          have := HCn.out
          omega
        · have f4 : (E.kind == 4) = false := by simp [q4]
          have HV := Lib.hid (HIn.out.trans (if_neg q4))
          clear q1 q4 HIn HSn
          go_wp2_with (first
            | ((with_reducible refine gate 35 rfl ?_)
               refine appJ (base := gm + 1) rfl _ _ rfl u3 (some ⟨w3.heap.size, 0, none⟩) 1 1 (inoTo l i) [(i : Int) + 1] rfl rfl rfl (fun h => by cases h) ?_ (rdJ_one _) ?_ ?_ ?_
               · exact ownJ_only HO3.out ((Only.refl (fun _ => False) w3).alloc _) (fun _ _ => id)
               · have := HGm.out; rw [alloc_size]; omega
               · rw [inoTo_len]; show i + 1 ≤ _; omega
               intro v7 w7 hO7 ho7
               have HO7 := Lib.hid hO7
               have HL7 := Lib.hid (((Only.refl (fun k => some k = u3.ownBlock) w3).alloc _).trans' ho7)
               clear hO7 ho7))
          refine ⟨⟨i + 1, by simp, by omega, Lib.hid (by rw [HIs.out, HV.out]; exact HO7.out), Lib.hid ⟨cnt, by rw [HTk.out, HSn1.out]; exact map_only HM3.out HL7.out (fun e => by have := HOb.out gm e; omega), ?_⟩, Lib.hid (HU.out.trans HL7.out (fun k hk => Or.inr (by have := HOb.out k hk; have := HG.out; omega)))⟩, by simp [intOf]; omega⟩
          have := HCn.out
          omega
    · have d1 : decide ((i : Int) < (n : Int)) = false := decide_eq_false (by omega)
      have d1' : decide (i < n) = false := decide_eq_false ci
      have HPost := Lib.hid (ino_end (show OwnJ (gm + 1) wr u3 (inoTo l l.length) by rw [HN.out, show n = i by omega]; exact HO.out) HU.out)
      go_wp2_with fail
      go_ret
      exact HPost.out
end Go.Proofs.YtpghionmmlidnaaGreatDoor.Walks
namespace Go.Proofs.YtpghionmmlidnaaGreatDoor.Walks
open Go Go.RowKit Go.Maps Go.Proofs.YtpghionmmlidnaaGreatDoor.Aid Go.Proofs.YtpghionmmlidnaaGreatDoor.Pth Go.Proofs.YtpghionmmlidnaaGreatDoor.Own Go.Proofs.YtpghionmmlidnaaGreatDoorW.PrintWords

theorem set_self {α : Type} (xs : Array α) (i : Nat) (h : i < xs.size) : xs.setIfInBounds i xs[i] = xs := by
  apply Array.ext (by simp)
  intro k h1 h2
  rw [Array.getElem_setIfInBounds]
  split
  · rename_i e; subst e; rfl
  · rfl
theorem only_same {w : World} {g i t : Nat} {xs : Array Value} {v : Value} (h : w.heap[g]? = some (.cells xs t (0, 0))) (hi : xs[i]? = some v) : Only (fun _ => False) w (w.setCell ⟨g, i, none⟩ v) := by
  have h1 := only_put w g i v
  refine ⟨h1.os, h1.tape, h1.output, h1.size, fun k hk _ => ?_⟩
  by_cases e : k = g
  · subst e
    rw [heap_setCell_same w k i _ _ v h, h]
    obtain ⟨hi1, hi2⟩ := Array.getElem?_eq_some_iff.1 hi
    rw [← hi2, set_self]
  · exact h1.block k hk e
theorem par_start {w w1 : World} {o1 : Obj} (hb : Below (((w.alloc o1).alloc (.cells #[.slice none 0 0] 22)).alloc (.cells #[.int .i64 0] 27)).heap.size (((w.alloc o1).alloc (.cells #[.slice none 0 0] 22)).alloc (.cells #[.int .i64 0] 27)) w1) :
    w1.heap[w.heap.size + 1]? = some (.cells #[.slice none 0 0] 22 (0, 0)) ∧ w1.heap[w.heap.size + 1 + 1]? = some (.cells #[.int .i64 0] 27 (0, 0)) ∧ Only (fun _ => False) w w1 ∧ w.heap.size + 3 ≤ w1.heap.size := by
  have ho : Only (fun _ => False) (((w.alloc o1).alloc (.cells #[.slice none 0 0] 22)).alloc (.cells #[.int .i64 0] 27)) w1 := Only.of_below hb _
  have h1 := alloc_new (w.alloc o1) (.cells #[.slice none 0 0] 22)
  have h2 := alloc_new ((w.alloc o1).alloc (.cells #[.slice none 0 0] 22)) (.cells #[.int .i64 0] 27)
  rw [alloc_size] at h1
  rw [alloc_size, alloc_size] at h2
  refine ⟨ho.keeps (((Only.refl (fun _ => False) _).alloc _).keeps h1 id) id, ho.keeps h2 id, ((((Only.refl (fun _ => False) w).alloc _).alloc _).alloc _).trans' ho, ?_⟩
  have := ho.size
  rw [alloc_size, alloc_size, alloc_size] at this
  omega
theorem leave_idle {u : World} {gp gq : Nat} {vp : Value} {c : Int} {tm : Array Value} {R : Ending → World → Prop} (hr : ∀ u : World, u.heap[gp]? = some (.cells #[vp] 22 (0, 0)) → u.heap[gq]? = some (.cells #[.int .i64 c] 27 (0, 0)) → (results Tryz.f17 tm).run Tryz.prog u = .ok (.tuple #[vp, .int .i64 c]) u) (hp : u.heap[gp]? = some (.cells #[vp] 22 (0, 0))) (hq : u.heap[gq]? = some (.cells #[.int .i64 c] 27 (0, 0)))
    (h : ∀ u', Only (fun _ => False) u u' → R (.returned (.tuple #[vp, .int .i64 c])) u') : Leaves Tryz.prog Tryz.f17 tm R [{ target := .fn (.func 32) #[.pointer (some ⟨gp, 0, none⟩), .pointer (some ⟨gq, 0, none⟩)], args := #[] }] .returning u := by
  refine leaves_cons (f := 32) (args := #[.pointer (some ⟨gp, 0, none⟩), .pointer (some ⟨gq, 0, none⟩)]) (by simp) (by simp [go_sem]) ?_
  refine (catch_idle _ _ _).mono ?_
  rintro e u' w'' ⟨rfl, rfl, hw⟩
  exact ⟨_, hr w'' (hw.keeps hp id) (hw.keeps hq id), h w'' hw⟩
theorem leave_fault {u : World} {gp gq : Nat} {vp : Value} {c x : Int} {tm : Array Value} {R : Ending → World → Prop} (hr : ∀ u : World, u.heap[gp]? = some (.cells #[.slice none 0 0] 22 (0, 0)) → u.heap[gq]? = some (.cells #[.int .i64 c] 27 (0, 0)) → (results Tryz.f17 tm).run Tryz.prog u = .ok (.tuple #[.slice none 0 0, .int .i64 c]) u) (hp : u.heap[gp]? = some (.cells #[vp] 22 (0, 0))) (hq : u.heap[gq]? = some (.cells #[.int .i64 x] 27 (0, 0))) (hpq : gp ≠ gq)
    (h : ∀ u', Only (fun g => g = gp ∨ g = gq) u u' → R (.returned (.tuple #[.slice none 0 0, .int .i64 c])) u') : Leaves Tryz.prog Tryz.f17 tm R [{ target := .fn (.func 32) #[.pointer (some ⟨gp, 0, none⟩), .pointer (some ⟨gq, 0, none⟩)], args := #[] }] (.panicking (faultC c)) u := by
  refine leaves_cons (f := 32) (args := #[.pointer (some ⟨gp, 0, none⟩), .pointer (some ⟨gq, 0, none⟩)]) (by simp) (by simp [go_sem]) ?_
  refine (catch_fault gp gq c vp x _ hp hq hpq).mono ?_
  rintro e u' w'' ⟨rfl, rfl, h1, h2, hw⟩
  exact ⟨_, hr w'' h1 h2, h w'' hw⟩
theorem par_results {u : World} {gp gq : Nat} {vp : Value} {c : Int} {tm : Array Value} (h4 : tm[4]? = some (.pointer (some ⟨gp, 0, none⟩))) (h5 : tm[5]? = some (.pointer (some ⟨gq, 0, none⟩))) (hp : u.heap[gp]? = some (.cells #[vp] 22 (0, 0))) (hq : u.heap[gq]? = some (.cells #[.int .i64 c] 27 (0, 0))) : (results Tryz.f17 tm).run Tryz.prog u = .ok (.tuple #[vp, .int .i64 c]) u := by
  have hv1 : u.cell? ⟨gp, 0, none⟩ = some vp := Joins.cell_of_block hp 0
  have hv2 : u.cell? ⟨gq, 0, none⟩ = some (.int .i64 c) := Joins.cell_of_block hq 0
  simp [results, Tryz.results17, go_sem, h4, h5, hv1, hv2]
set_option maxRecDepth 100000 in
set_option maxHeartbeats 4000000 in
theorem parse_refused {w : World} {A : Option Addr} {n c : Nat} {L : Lim} {r : Nat} (hL : L.ok = false) : Calls Tryz.prog 17 #[.slice A n c, Bud.lim L.entry L.total L.entries L.path r] w fun e w' => e = .returned (.tuple #[.slice none 0 0, .int .i64 1]) ∧ Only (fun _ => False) w w' := by
  have hmf : ∀ (fn : Fn) (first cap : Array Value) (w : World), (Instr.makeFunc fn first cap).run Tryz.prog w = .ok (.func fn first cap) w := fun _ _ _ _ => rfl
  have HN := Lib.hid (fun u => (Bud.new_any L.entry L.total L.entries L.path r u).mono (show ∀ e w', Bud.NewPost L.entry L.total L.entries L.path r u e w' → e = .returned (.tuple #[.pointer none, .int .i64 1]) ∧ Below u.heap.size u w' from fun e w' h => by
    unfold Bud.NewPost at h
    have hL2 : Bud.mayB L.entry L.total L.entries L.path = false := hL
    rwa [if_neg (by rw [hL2]; decide)] at h))
  clear hL
  go_enter_defers Tryz.func17, Tryz.ntmps17
  go_wp2_with fail
  go_at_call 33
  refine (HN.out _).mono ?_
  rintro e w1 ⟨rfl, hb⟩
  have hs := par_start hb
  clear hb
  obtain ⟨gp, hgp⟩ : ∃ gp, w.heap.size + 1 = gp := ⟨_, rfl⟩
  obtain ⟨gq, hgq⟩ : ∃ gq, gp + 1 = gq := ⟨_, rfl⟩
  simp only [hgp, hgq] at hs ⊢
  have HS := Lib.hid hs
  have o1 : w1.cell? ⟨gp, 0, none⟩ = some (.slice none 0 0) := Joins.cell_of_block hs.1 0
  have o2 : w1.cell? ⟨gq, 0, none⟩ = some (.int .i64 0) := Joins.cell_of_block hs.2.1 0
  have f1 := frozen_of_row w1 gp 0 _ _ hs.1
  have f2 := frozen_of_row w1 gq 0 _ _ hs.2.1
  have hne : gp ≠ gq := by omega
  have HN2 := Lib.hid (show w.heap.size ≤ gp ∧ w.heap.size ≤ gq from by omega)
  clear hs hgp hgq
  go_upto_region 4 with (fail)
  obtain ⟨W, hW⟩ : ∃ W, w1.setCell ⟨gq, 0, none⟩ (.int .i64 1) = W := ⟨_, rfl⟩
  have HW := Lib.hid (show W.heap[gp]? = some (.cells #[.slice none 0 0] 22 (0, 0)) ∧ W.heap[gq]? = some (.cells #[.int .i64 1] 27 (0, 0)) ∧ Only (fun _ => False) w W from by
    rw [← hW]
    exact ⟨(heap_setCell_other _ ⟨gq, 0, none⟩ gp _ hne).trans HS.out.1, heap_setCell_same w1 gq 0 _ _ _ HS.out.2.1, HS.out.2.2.1.setCell (.inr HN2.out.2) _⟩)
  rw [hW]
  clear hW o1 o2 f1 f2 HS
  clear w1
  have o1 : W.cell? ⟨gp, 0, none⟩ = some (.slice none 0 0) := Joins.cell_of_block HW.out.1 0
  have o2 : W.cell? ⟨gq, 0, none⟩ = some (.int .i64 1) := Joins.cell_of_block HW.out.2.1 0
  have f1 := frozen_of_row W gp 0 _ _ HW.out.1
  have f2 := frozen_of_row W gq 0 _ _ HW.out.2.1
  go_region
  all_goals go_wp2_with fail
  have h1 : (W.setCell ⟨gp, 0, none⟩ (.slice none 0 0)).heap[gp]? = some (.cells #[.slice none 0 0] 22 (0, 0)) := heap_setCell_same W gp 0 _ _ _ HW.out.1
  have h2 : (W.setCell ⟨gp, 0, none⟩ (.slice none 0 0)).heap[gq]? = some (.cells #[.int .i64 1] 27 (0, 0)) := (heap_setCell_other W ⟨gp, 0, none⟩ gq _ (Ne.symm hne)).trans HW.out.2.1
  have h3 : ((W.setCell ⟨gp, 0, none⟩ (.slice none 0 0)).setCell ⟨gq, 0, none⟩ (.int .i64 1)).drew.heap[gp]? = some (.cells #[.slice none 0 0] 22 (0, 0)) := (heap_setCell_other _ ⟨gq, 0, none⟩ gp _ hne).trans h1
  have h4 : ((W.setCell ⟨gp, 0, none⟩ (.slice none 0 0)).setCell ⟨gq, 0, none⟩ (.int .i64 1)).drew.heap[gq]? = some (.cells #[.int .i64 1] 27 (0, 0)) := heap_setCell_same _ gq 0 _ _ _ h2
  exact leave_idle (fun u h5 h6 => par_results rfl rfl h5 h6) h3 h4 (fun u' hu => ⟨rfl, ((HW.out.2.2.setCell (.inr HN2.out.1) _).setCell (.inr HN2.out.2) _).drew.trans' hu⟩)
theorem tailL_len {b : Str} {lim : Lim} {s s2 : PS} {ns : List Nat} {e : Ent} {wh : Nat} {grp : List Grp} {at_ : Nat} (h : tailL b lim s ns e wh grp at_ = .ok s2) : s2.out.length = s.out.length + 1 := by
  unfold tailL at h
  repeat' split at h
  all_goals first | (cases h; done) | (injection h with h; subst h; simp [addData])
theorem bodyL_len {b : Str} {lim : Lim} {s s2 : PS} {ns : List Nat} {name : Str} {at_ : Nat} (h : bodyL b lim s ns name at_ = .ok s2) : s2.out.length = s.out.length + 1 := by
  unfold bodyL at h
  repeat' split at h
  all_goals first | (cases h; done) | exact tailL_len h
theorem nextL_len {b : Str} {lim : Lim} {s s2 : PS} (h : nextL b lim s = .ok (some s2)) : s2.out.length = s.out.length + 1 := by
  unfold nextL at h
  repeat' split at h
  all_goals first | (cases h; done) | (rename_i h2; injection h with h; injection h with h; subst h; exact bodyL_len h2)
theorem px_start {w3 w1 : World} {gb : Nat} {ad : Addr} {b : Str} {n c r : Nat} {L : Lim} (ho : Only (fun _ => False) w3 w1) (hg : w3.heap.size ≤ gb) (hb : w1.heap[gb]? = some (Bud.bud L.entry L.total L.entries L.path r 0 0 0)) (hr : RdU w3 (some ad) b) (hl : b.length = n) (hn : n ≤ 500000) (hc : n ≤ c) (hm : MaxLen w3) (ha : ad.block < w3.heap.size) (hL : L.ok = true) :
    PK.Ok ⟨w3, w1.heap.size + 3, w1.heap.size + 1 + 1, gb, w1.heap.size, w1.heap.size + 1, ad, n, c, b, L, r⟩ ∧ PX ⟨w3, w1.heap.size + 3, w1.heap.size + 1 + 1, gb, w1.heap.size, w1.heap.size + 1, ad, n, c, b, L, r⟩ ⟨0, 0, [], []⟩ (.slice none 0 0) [] 0 0 0 (((w1.alloc (.map #[] 0)).alloc (.map #[] 0)).alloc (.cells #[.slice (some ad) n c, .int .i64 0, .pointer (some ⟨gb, 0, none⟩), .slice none 0 0, .map (some w1.heap.size), .map (some (w1.heap.size + 1))] 71)) := by
  have h1 := Only.heap_lt hb
  have h2 := ho.size
  obtain ⟨u, hu⟩ : ∃ u, ((w1.alloc (.map #[] 0)).alloc (.map #[] 0)).alloc (.cells #[.slice (some ad) n c, .int .i64 0, .pointer (some ⟨gb, 0, none⟩), .slice none 0 0, .map (some w1.heap.size), .map (some (w1.heap.size + 1))] 71) = u := ⟨_, rfl⟩
  have e3 : u.heap.size = w1.heap.size + 3 := by rw [← hu, alloc_size, alloc_size, alloc_size]
  have e1 := World.ownsMap_made (H := Unit) w1 Tryz.prog 9 (plainElem Tryz.prog 3)
  have e2 := World.ownsMap_made (H := Unit) (w1.alloc (.map #[] 0)) Tryz.prog 115 (grpElem (H := Unit))
  have e4 := alloc_new ((w1.alloc (.map #[] 0)).alloc (.map #[] 0)) (.cells #[.slice (some ad) n c, .int .i64 0, .pointer (some ⟨gb, 0, none⟩), .slice none 0 0, .map (some w1.heap.size), .map (some (w1.heap.size + 1))] 71)
  rw [alloc_size, alloc_size, hu] at e4
  rw [alloc_size] at e2
  have o1 : Only (fun _ => False) w1 u := by rw [← hu]; exact (((Only.refl (fun _ => False) w1).alloc _).alloc _).alloc _
  rw [hu]
  have hLm := hL
  unfold Lim.ok Bud.mayB Bud.withinB at hLm
  simp only [Bool.and_eq_true, decide_eq_true_eq] at hLm
  constructor
  · exact ⟨hr, hl, hn, hc, hm, ha, ⟨by simp only; omega, hg, by simp only; omega, by simp only; omega⟩, ⟨by simp only; omega, by simp only; omega, by simp only; omega, by simp only; omega⟩, ⟨by simp only; omega, by simp only; omega, by simp only; omega, by simp only; omega, by simp only; omega, by simp only; omega⟩, hL⟩
  · refine ⟨e4, o1.keeps hb id, ownE_nil _ _, rfl, (fun e h => by cases h), ?_, ?_, Nat.le_refl _, ho.trans' o1, Nat.le_of_eq e3.symm, Nat.zero_le _, Nat.le_refl _, ⟨Int.le_refl _, ?_⟩, ⟨Int.le_refl _, ?_⟩, (fun E h => by cases h)⟩
    · show u.ownsMap Tryz.prog 9 (plainElem Tryz.prog 3) w1.heap.size 0 (kmap [])
      rw [← hu]
      exact (e1.alloc _).alloc _
    · show u.ownsMap Tryz.prog 115 (grpElem (H := Unit)) (w1.heap.size + 1) 0 (gmap [])
      rw [← hu]
      exact e2.alloc _
    · exact hLm.1.1.2.1
    · exact hLm.1.1.1.1
def ParsePost (b : Str) (L : Lim) (w : World) (e : Ending) (w' : World) : Prop := Only (fun _ => False) w w' ∧ match parseL b L with
  | .error c => e = .returned (.tuple #[.slice none 0 0, .int .i64 c])
  | .ok l => ∃ (A : Option Addr) (cap : Nat) (es : List Ent3), e = .returned (.tuple #[.slice A l.length cap, .int .i64 0]) ∧ l.length ≤ cap ∧ l.length ≤ b.length ∧ RdE w' A l (atE es) ∧ (∀ ad, A = some ad → ad = ⟨ad.block, 0, none⟩ ∧ w.heap.size ≤ ad.block ∧ ad.block < w'.heap.size) ∧ (∀ E ∈ l, E.path.length ≤ 500000)
theorem PX.done {K : PK} {st : PS} {outV : Value} {es : List Ent3} {cg ck : Nat} {ow : Int} {u v : World} {S : Nat → Prop} (h : PX K st outV es cg ck ow u) (ho : Only S u v) (hS : ∀ b, S b → b < K.base) :
    ∃ A cap, outV = .slice A st.out.length cap ∧ st.out.length ≤ cap ∧ RdE v A st.out (atE es) ∧ ∀ ad, A = some ad → ad = ⟨ad.block, 0, none⟩ ∧ K.base ≤ ad.block ∧ ad.block < v.heap.size := by
  have own2 : OwnE K.base v outV es := ownE_but h.own ho (fun b e hs => by have := (ownE_lt h.own e).2; have := hS b hs; omega) (fun e he ad e1 h0 hs => by have := (h.data_lt e he ad e1 h0).2; have := hS _ hs; omega)
  obtain ⟨A, cap, e, hc, hr⟩ := ownE_rd own2
  rw [h.len] at e hc
  rw [h.map] at hr
  refine ⟨A, cap, e, hc, hr, fun ad hA => ?_⟩
  subst hA
  rcases own2.1.2 with ⟨e2, _⟩ | ⟨g, cap', cur, e2, hb, hg, _⟩
  · rw [e] at e2; cases e2
  · rw [e] at e2
    injection e2 with e2 _ _
    injection e2 with e2
    subst e2
    exact ⟨rfl, hb, Only.heap_lt hg⟩
def outN (u : World) (g : Nat) : Nat := match u.cell? ⟨g, 3, none⟩ with | some (.slice _ k _) => k | _ => 0
theorem PX.outN {K : PK} {st : PS} {outV : Value} {es : List Ent3} {cg ck : Nat} {ow : Int} {u : World} (h : PX K st outV es cg ck ow u) : outN u K.g = st.out.length := by
  obtain ⟨A, cap, e, _⟩ := h.shape
  have h3 : u.cell? ⟨K.g, 3, none⟩ = some outV := Joins.cell_of_block h.par 3
  unfold Walks.outN
  rw [h3, e]
set_option maxRecDepth 100000 in
set_option maxHeartbeats 4000000 in
theorem parse_ok {w : World} {ad : Addr} {b : Str} {n c r : Nat} {L : Lim} (hr : RdU w (some ad) b) (hl : b.length = n) (hn : n ≤ 500000) (hc : n ≤ c) (hm : MaxLen w) (ha : ad.block < w.heap.size) (hL : L.ok = true) : Calls Tryz.prog 17 #[.slice (some ad) n c, Bud.lim L.entry L.total L.entries L.path r] w (ParsePost b L w) := by
  have hmf : ∀ (fn : Fn) (first cap : Array Value) (w : World), (Instr.makeFunc fn first cap).run Tryz.prog w = .ok (.func fn first cap) w := fun _ _ _ _ => rfl
  have hmm := @run_makeMap Tryz.prog
  have HN := Lib.hid (fun u => (Bud.new_any L.entry L.total L.entries L.path r u).mono (show ∀ e w', Bud.NewPost L.entry L.total L.entries L.path r u e w' → ∃ g, e = .returned (.tuple #[.pointer (some ⟨g, 0, none⟩), .int .i64 0]) ∧ u.heap.size ≤ g ∧ w'.heap[g]? = some (Bud.bud L.entry L.total L.entries L.path r 0 0 0) ∧ Below u.heap.size u w' from fun e w' h => by
    unfold Bud.NewPost at h
    have hL2 : Bud.mayB L.entry L.total L.entries L.path = true := hL
    rwa [if_pos hL2] at h))
  have HS := Lib.hid (fun w3 w1 gb => @px_start w3 w1 gb ad b n c r L)
  have HP := Lib.hid (show parseL b L = runL b L (b.length + 1) ⟨0, 0, [], []⟩ from by unfold parseL; rw [if_pos hL])
  have HA := Lib.hid (⟨hr, hl, hn, hc, hm, ha, hL⟩ : RdU w (some ad) b ∧ b.length = n ∧ n ≤ 500000 ∧ n ≤ c ∧ MaxLen w ∧ ad.block < w.heap.size ∧ L.ok = true)
  clear hr hl hn hc hm ha hL
  obtain ⟨Post, hPost⟩ : ∃ Post, ParsePost b L w = Post := ⟨_, rfl⟩
  have HPost := Lib.hid hPost
  rw [hPost]
  clear hPost
  go_enter_defers Tryz.func17, Tryz.ntmps17
  go_wp2_with fail
  go_at_call 33
  refine (HN.out _).mono ?_
  rintro e w1 ⟨gb, rfl, hgb, hbud, hb⟩
  have hs := par_start hb
  have HB := Lib.hid hb
  have HG := Lib.hid (⟨hgb, hbud⟩ : _ ∧ _)
  clear hb hgb hbud
  have hs1 := hs.1
  have hs2 := hs.2.1
  have o1 : w1.cell? ⟨w.heap.size + 1, 0, none⟩ = some (.slice none 0 0) := Joins.cell_of_block hs.1 0
  have o2 : w1.cell? ⟨w.heap.size + 1 + 1, 0, none⟩ = some (.int .i64 0) := Joins.cell_of_block hs.2.1 0
  have f1 := frozen_of_row w1 (w.heap.size + 1) 0 _ _ hs.1
  have f2 := frozen_of_row w1 (w.heap.size + 1 + 1) 0 _ _ hs.2.1
  have HS1 := Lib.hid hs
  clear hs hs1 hs2
  go_upto_region 5 with (fail)
  obtain ⟨w3, hw3⟩ : ∃ w3, ((w.alloc (.cells #[.int .i64 L.entry, .int .i64 L.total, .int .i64 L.entries, .int .i64 L.path, .float .f64 r] 40)).alloc (.cells #[.slice none 0 0] 22)).alloc (.cells #[.int .i64 0] 27) = w3 := ⟨_, rfl⟩
  obtain ⟨W, hW⟩ : ∃ W, w1.setCell ⟨w.heap.size + 1 + 1, 0, none⟩ (.int .i64 0) = W := ⟨_, rfl⟩
  have HV := Lib.hid (show w3.heap[w.heap.size + 1]? = some (.cells #[.slice none 0 0] 22 (0, 0)) ∧ w3.heap[w.heap.size + 1 + 1]? = some (.cells #[.int .i64 0] 27 (0, 0)) ∧ Only (fun _ => False) w w3 ∧ w3.heap.size = w.heap.size + 3 from by
    have h1 := par_start (Below.refl _ (((w.alloc (.cells #[.int .i64 L.entry, .int .i64 L.total, .int .i64 L.entries, .int .i64 L.path, .float .f64 r] 40)).alloc (.cells #[.slice none 0 0] 22)).alloc (.cells #[.int .i64 0] 27)))
    have h2 : w3.heap.size = w.heap.size + 3 := by rw [← hw3, alloc_size, alloc_size, alloc_size]
    rw [hw3] at h1
    exact ⟨h1.1, h1.2.1, h1.2.2.1, h2⟩)
  have HW := Lib.hid (show Only (fun _ => False) w3 W ∧ w3.heap.size ≤ gb ∧ W.heap[gb]? = some (Bud.bud L.entry L.total L.entries L.path r 0 0 0) from by
    have h1 := HB.out
    have h2 := HG.out.1
    rw [hw3] at h1 h2
    have h3 := only_same HS1.out.2.1 (i := 0) (v := .int .i64 0) rfl
    rw [hW] at h3
    exact ⟨(Only.of_below h1 _).trans' h3, h2, h3.keeps HG.out.2 id⟩)
  rw [hW]
  clear hW hw3 HB HG HS1 o1 o2 f1 f2
  clear w1
  go_wp2_with fail
  have HX := Lib.hid (HS.out w3 W gb HW.out.1 HW.out.2.1 HW.out.2.2 (HA.out.1.only HV.out.2.2.1) HA.out.2.1 HA.out.2.2.1 HA.out.2.2.2.1 (HA.out.2.2.2.2.1.only HV.out.2.2.1) (by have := HA.out.2.2.2.2.2.1; have := HV.out.2.2.2; omega) HA.out.2.2.2.2.2.2)
  have hx : ∃ K : PK, K.Ok ∧ PX K ⟨0, 0, [], []⟩ (.slice none 0 0) [] 0 0 0 (((W.alloc (.map #[] 0)).alloc (.map #[] 0)).alloc (.cells #[.slice (some ad) n c, .int .i64 0, .pointer (some ⟨gb, 0, none⟩), .slice none 0 0, .map (some W.heap.size), .map (some (W.heap.size + 1))] 71)) ∧ K.w0 = w3 ∧ K.g = W.heap.size + 1 + 1 ∧ K.b = b ∧ K.lim = L := ⟨_, HX.out.1, HX.out.2, rfl, rfl, rfl, rfl⟩
  clear HX
  obtain ⟨K, hK, hX, k0, k1, k2, k3⟩ := hx
  obtain ⟨U, hU⟩ : ∃ U, ((W.alloc (.map #[] 0)).alloc (.map #[] 0)).alloc (.cells #[.slice (some ad) n c, .int .i64 0, .pointer (some ⟨gb, 0, none⟩), .slice none 0 0, .map (some W.heap.size), .map (some (W.heap.size + 1))] 71) = U := ⟨_, rfl⟩
  rw [hU] at hX ⊢
  obtain ⟨G, hG⟩ : ∃ G, W.heap.size + 1 + 1 = G := ⟨_, rfl⟩
  rw [hG] at k1 ⊢
  have HK := Lib.hid hK
  have HX := Lib.hid hX
  have HKs := Lib.hid (⟨k0, k1, k2, k3⟩ : _ ∧ _ ∧ _ ∧ _)
  clear hU hG hK hX k0 k1 k2 k3 HW hmf hmm HS HN
  go_loopw [24] (fun v24 u => ∃ (st : PS) (k : Nat) (outV : Value) (es : List Ent3) (cg ck : Nat) (ow : Int), Hid (PX K st outV es cg ck ow u) ∧ Hid (GI st cg) ∧ Hid (runL b L k st = parseL b L ∧ n + 1 ≤ k + st.out.length)) (fun _ u => n + 1 - outN u G)
  case atStart => exact ⟨_, _, _, _, _, _, _, HX, Lib.hid ⟨Nat.le_refl _, fun x h => (by cases h), (fun k f h => by cases h), (fun k k' f x x' h => by cases h)⟩, Lib.hid ⟨HP.out.symm, by rw [HA.out.2.1]; omega⟩⟩
  case round =>
    clear HX
    obtain ⟨st, k, outV, es, cg, ck, ow, HX, HGI, HR⟩ := hrel
    obtain ⟨k, rfl⟩ : ∃ k', k = k' + 1 := ⟨k - 1, by have h1 := HX.out.cnt; have h2 := HX.out.pos; have h3 := HR.out.2; have h4 := HK.out.len; have h5 := HA.out.2.1; have h6 := HKs.out.2.2.1; rw [h6] at h4; omega⟩
    have HNx := Lib.hid (next_any HK.out HX.out HGI.out)
    rw [HKs.out.2.1] at HNx
    have HV2 := Lib.hid (fun u' (hu : Only (fun _ => False) K.w0 u') => (show u'.heap[w.heap.size + 1]? = some (.cells #[.slice none 0 0] 22 (0, 0)) ∧ u'.heap[w.heap.size + 1 + 1]? = some (.cells #[.int .i64 0] 27 (0, 0)) ∧ Only (fun _ => False) w u' from by
      rw [HKs.out.1] at hu
      exact ⟨hu.keeps HV.out.1 id, hu.keeps HV.out.2.1 id, HV.out.2.2.1.trans' hu⟩))
    have HRu := Lib.hid (show runL b L (k + 1) st = match nextL K.b K.lim st with | .error c => .error c | .ok none => .ok st.out | .ok (some s2) => runL b L k s2 from by rw [HKs.out.2.2.1, HKs.out.2.2.2]; rfl)
    rw [HR.out.1] at HRu
    cases hnx : nextL K.b K.lim st with
    | error cc =>
      rw [hnx] at HRu
      replace HNx := Lib.hid (HNx.out.mono (show ∀ e w', NextPost K st e w' → e = .panicked (faultC cc) ∧ Only (fun _ => False) K.w0 w' from fun e w' h => by unfold NextPost at h; rwa [hnx] at h))
      clear hnx
      go_wp2_with (go_at_call 34; refine HNx.out.mono ?_; rintro e w9 ⟨rfl, h9⟩; have H9 := Lib.hid (HV2.out _ h9); clear h9)
      exact leave_fault (fun u h5 h6 => par_results rfl rfl h5 h6) H9.out.1 H9.out.2.1 (by omega) (fun u' hu => by
        rw [← HPost.out]
        unfold ParsePost
        rw [HRu.out]
        exact ⟨H9.out.2.2.trans hu (fun j hj => Or.inr (by omega)), rfl⟩)
    | ok o =>
      cases o with
      | none =>
        rw [hnx] at HRu
        replace HNx := Lib.hid (HNx.out.mono (show ∀ e w', NextPost K st e w' → e = .returned (.bool false) ∧ ∃ st' outV es cg ck ow, st'.out = st.out ∧ PX K st' outV es cg ck ow w' from fun e w' h => by unfold NextPost at h; rwa [hnx] at h))
        clear hnx
        go_wp2_with fail
        go_at_call 34
        refine HNx.out.mono ?_
        rintro e w9 ⟨rfl, st', outV2, es2, cg2, ck2, ow2, hso, h9⟩
        obtain ⟨A2, cap2, rfl, hrd, hfr⟩ := h9.shape
        have HRd := Lib.hid (⟨hrd, hfr⟩ : _ ∧ _)
        clear hrd hfr
        obtain ⟨l2, hl2⟩ : ∃ l2, st'.out.length = l2 := ⟨_, rfl⟩
        rw [hl2] at h9 HRd
        have HL2 := Lib.hid hl2
        clear hl2
        have H9 := Lib.hid (HV2.out _ h9.only)
        have HX9 := Lib.hid h9
        have HSo := Lib.hid hso
        have o3 : w9.cell? ⟨K.g, 3, none⟩ = some (.slice A2 l2 cap2) := Joins.cell_of_block h9.par 3
        rw [HKs.out.2.1] at o3
        have o1 : w9.cell? ⟨w.heap.size + 1, 0, none⟩ = some (.slice none 0 0) := Joins.cell_of_block H9.out.1 0
        have o2 : w9.cell? ⟨w.heap.size + 1 + 1, 0, none⟩ = some (.int .i64 0) := Joins.cell_of_block H9.out.2.1 0
        have f1 := frozen_of_row w9 (w.heap.size + 1) 0 _ _ H9.out.1
        have f2 := frozen_of_row w9 (w.heap.size + 1 + 1) 0 _ _ H9.out.2.1
        clear h9 hso
        go_wp2_with fail
        have h1 : (w9.setCell ⟨w.heap.size + 1, 0, none⟩ (.slice A2 l2 cap2)).heap[w.heap.size + 1]? = some (.cells #[(.slice A2 l2 cap2)] 22 (0, 0)) := heap_setCell_same w9 _ 0 _ _ _ H9.out.1
        have h2 : (w9.setCell ⟨w.heap.size + 1, 0, none⟩ (.slice A2 l2 cap2)).heap[w.heap.size + 1 + 1]? = some (.cells #[.int .i64 0] 27 (0, 0)) := (heap_setCell_other w9 ⟨w.heap.size + 1, 0, none⟩ _ _ (by show w.heap.size + 1 + 1 ≠ w.heap.size + 1; omega)).trans H9.out.2.1
        have h3 : ((w9.setCell ⟨w.heap.size + 1, 0, none⟩ (.slice A2 l2 cap2)).setCell ⟨w.heap.size + 1 + 1, 0, none⟩ (.int .i64 0)).heap[w.heap.size + 1]? = some (.cells #[(.slice A2 l2 cap2)] 22 (0, 0)) := (heap_setCell_other _ ⟨w.heap.size + 1 + 1, 0, none⟩ _ _ (by show w.heap.size + 1 ≠ w.heap.size + 1 + 1; omega)).trans h1
        have h4 : ((w9.setCell ⟨w.heap.size + 1, 0, none⟩ (.slice A2 l2 cap2)).setCell ⟨w.heap.size + 1 + 1, 0, none⟩ (.int .i64 0)).heap[w.heap.size + 1 + 1]? = some (.cells #[.int .i64 0] 27 (0, 0)) := heap_setCell_same _ _ 0 _ _ _ h2
        refine leave_idle (fun u h5 h6 => par_results rfl rfl h5 h6) h3 h4 (fun u' hu => ?_)
        rw [← HPost.out]
        unfold ParsePost
        rw [HRu.out]
        have ho : Only (fun b => b = w.heap.size + 1 ∨ b = w.heap.size + 1 + 1) w9 u' := (((Only.refl _ w9).setCell (.inl (.inl rfl)) _).setCell (.inl (.inr rfl)) _).trans hu (fun _ h => h.elim)
        have b1 := HK.out.new.1
        have b2 := HK.out.low.1
        have b3 := HV.out.2.2.2
        rw [HKs.out.1] at b1
        obtain ⟨A, cap, e1, e2, e3, e4⟩ := HX9.out.done ho (fun b h => by omega)
        injection e1 with i1 i2 i3
        subst i1 i2 i3
        rw [HSo.out] at e2 e3 ⊢
        have hc1 := HX.out.cnt
        have hc2 := HX.out.pos
        have hc3 := HK.out.len
        rw [HKs.out.2.2.1] at hc3
        refine ⟨H9.out.2.2.trans ho (fun b h => Or.inr (by omega)), A2, cap2, es2, rfl, e2, by omega, e3, fun ad h => ?_, HX.out.pth⟩
        obtain ⟨e5, e6, e7⟩ := e4 ad h
        exact ⟨e5, by omega, e7⟩
      | some s2 =>
        rw [hnx] at HRu
        have HLen := Lib.hid (nextL_len hnx)
        replace HNx := Lib.hid (HNx.out.mono (show ∀ e w', NextPost K st e w' → e = .returned (.bool true) ∧ ∃ outV es cg ck ow, PX K s2 outV es cg ck ow w' ∧ GI s2 cg from fun e w' h => by unfold NextPost at h; rwa [hnx] at h))
        clear hnx
        have HM := Lib.hid (HX.out.outN)
        rw [HKs.out.2.1] at HM
        go_wp2_with (go_at_call 34; refine HNx.out.mono ?_; rintro e w9 ⟨rfl, outV2, es2, cg2, ck2, ow2, h9, hgi⟩; have HX9 := Lib.hid h9; have HGI9 := Lib.hid hgi; clear h9 hgi)
        refine ⟨⟨s2, k, outV2, es2, cg2, ck2, ow2, HX9, HGI9, Lib.hid ⟨HRu.out.symm, by have := HR.out.2; have := HLen.out; omega⟩⟩, ?_⟩
        have h1 := HX9.out.outN
        rw [HKs.out.2.1] at h1
        rw [h1, HM.out]
        have h2 := HLen.out
        have h3 := HX9.out.cnt
        have h4 := HX9.out.pos
        have h5 := HK.out.len
        have h6 := HA.out.2.1
        rw [HKs.out.2.2.1] at h5
        omega
set_option maxHeartbeats 1000000 in
theorem next_short {u : World} {g : Nat} {A : Option Addr} {n c gb gk gg : Nat} {out : Value} (hb : u.heap[g]? = some (.cells (prow A n c 0 gb out gk gg) 71 (0, 0))) (hn : n < 6) : Calls Tryz.prog 34 #[.pointer (some ⟨g, 0, none⟩)] u fun e w' => e = .panicked (faultC 2) ∧ Only (fun _ => False) u w' := by
  have HT := Lib.hid (take_no hb 6 (by omega) (Nat.zero_le _) (by omega))
  clear hb hn
  go_enter Tryz.func34, Tryz.ntmps34
  go_wp2_with (go_at_call 65; refine HT.out.mono ?_; rintro e w9 ⟨rfl, h9⟩; have H9 := Lib.hid h9; clear h9)
  exact ⟨rfl, rfl, H9.out⟩
theorem parse_nothing {L : Lim} (hL : L.ok = true) : parseL [] L = .error 2 := by
  unfold parseL
  rw [if_pos hL]
  rfl
set_option maxRecDepth 100000 in
set_option maxHeartbeats 4000000 in
theorem parse_none {w : World} {A : Option Addr} {c r : Nat} {L : Lim} (hL : L.ok = true) : Calls Tryz.prog 17 #[.slice A 0 c, Bud.lim L.entry L.total L.entries L.path r] w (ParsePost [] L w) := by
  have hmf : ∀ (fn : Fn) (first cap : Array Value) (w : World), (Instr.makeFunc fn first cap).run Tryz.prog w = .ok (.func fn first cap) w := fun _ _ _ _ => rfl
  have hmm := @run_makeMap Tryz.prog
  have HN := Lib.hid (fun u => (Bud.new_any L.entry L.total L.entries L.path r u).mono (show ∀ e w', Bud.NewPost L.entry L.total L.entries L.path r u e w' → ∃ g, e = .returned (.tuple #[.pointer (some ⟨g, 0, none⟩), .int .i64 0]) ∧ u.heap.size ≤ g ∧ w'.heap[g]? = some (Bud.bud L.entry L.total L.entries L.path r 0 0 0) ∧ Below u.heap.size u w' from fun e w' h => by
    unfold Bud.NewPost at h
    have hL2 : Bud.mayB L.entry L.total L.entries L.path = true := hL
    rwa [if_pos hL2] at h))
  have HPost := Lib.hid (fun (w' : World) (ho : Only (fun _ => False) w w') => (show ParsePost [] L w (.returned (.tuple #[.slice none 0 0, .int .i64 2])) w' from by
    unfold ParsePost
    rw [parse_nothing hL]
    exact ⟨ho, rfl⟩))
  clear hL
  obtain ⟨Post, hPost⟩ : ∃ Post, ParsePost [] L w = Post := ⟨_, rfl⟩
  rw [hPost] at HPost ⊢
  clear hPost
  go_enter_defers Tryz.func17, Tryz.ntmps17
  go_wp2_with fail
  go_at_call 33
  refine (HN.out _).mono ?_
  rintro e w1 ⟨gb, rfl, hgb, hbud, hb⟩
  have hs := par_start hb
  clear hb hgb hbud
  have o1 : w1.cell? ⟨w.heap.size + 1, 0, none⟩ = some (.slice none 0 0) := Joins.cell_of_block hs.1 0
  have o2 : w1.cell? ⟨w.heap.size + 1 + 1, 0, none⟩ = some (.int .i64 0) := Joins.cell_of_block hs.2.1 0
  have f1 := frozen_of_row w1 (w.heap.size + 1) 0 _ _ hs.1
  have f2 := frozen_of_row w1 (w.heap.size + 1 + 1) 0 _ _ hs.2.1
  have HS1 := Lib.hid hs
  clear hs
  go_upto_region 5 with (fail)
  obtain ⟨W, hW⟩ : ∃ W, w1.setCell ⟨w.heap.size + 1 + 1, 0, none⟩ (.int .i64 0) = W := ⟨_, rfl⟩
  have HW := Lib.hid (show W.heap[w.heap.size + 1]? = some (.cells #[.slice none 0 0] 22 (0, 0)) ∧ W.heap[w.heap.size + 1 + 1]? = some (.cells #[.int .i64 0] 27 (0, 0)) ∧ Only (fun _ => False) w W from by
    have h3 := only_same HS1.out.2.1 (i := 0) (v := .int .i64 0) rfl
    rw [hW] at h3
    exact ⟨h3.keeps HS1.out.1 id, h3.keeps HS1.out.2.1 id, HS1.out.2.2.1.trans' h3⟩)
  rw [hW]
  clear hW HS1 o1 o2 f1 f2
  clear w1
  go_wp2_with fail
  have e4 := alloc_new ((W.alloc (.map #[] 0)).alloc (.map #[] 0)) (.cells #[.slice A 0 c, .int .i64 0, .pointer (some ⟨gb, 0, none⟩), .slice none 0 0, .map (some W.heap.size), .map (some (W.heap.size + 1))] 71)
  rw [alloc_size, alloc_size] at e4
  have HO := Lib.hid ((((Only.refl (fun _ => False) W).alloc (.map #[] 0)).alloc (.map #[] 0)).alloc (.cells #[.slice A 0 c, .int .i64 0, .pointer (some ⟨gb, 0, none⟩), .slice none 0 0, .map (some W.heap.size), .map (some (W.heap.size + 1))] 71))
  have HNx := Lib.hid (next_short (A := A) (n := 0) (c := c) (gb := gb) (gk := W.heap.size) (gg := W.heap.size + 1) (out := .slice none 0 0) e4 (by decide))
  obtain ⟨U, hU⟩ : ∃ U, ((W.alloc (.map #[] 0)).alloc (.map #[] 0)).alloc (.cells #[.slice A 0 c, .int .i64 0, .pointer (some ⟨gb, 0, none⟩), .slice none 0 0, .map (some W.heap.size), .map (some (W.heap.size + 1))] 71) = U := ⟨_, rfl⟩
  rw [hU] at HO HNx ⊢
  clear hU e4 hmm hmf HN
  go_loopw [24] (fun v24 u => u = U) (fun _ u => 0)
  case atStart => rfl
  case round =>
    subst hrel
    go_wp2_with (go_at_call 34; refine HNx.out.mono ?_; rintro e w9 ⟨rfl, h9⟩; have H9 := Lib.hid h9; clear h9)
    have ho := HO.out.trans' H9.out
    exact leave_fault (fun u h5 h6 => par_results rfl rfl h5 h6) (ho.keeps HW.out.1 id) (ho.keeps HW.out.2.1 id) (by omega) (fun u' hu => HPost.out _ ((HW.out.2.2.trans' ho).trans hu (fun j hj => Or.inr (by omega))))
theorem parse_any {w : World} {A : Option Addr} {b : Str} {n c r : Nat} {L : Lim} (hr : RdU w A b) (hl : b.length = n) (hn : n ≤ 500000) (hc : n ≤ c) (hm : MaxLen w) : Calls Tryz.prog 17 #[.slice A n c, Bud.lim L.entry L.total L.entries L.path r] w (ParsePost b L w) := by
  cases hL : L.ok with
  | false => exact (parse_refused hL).mono (fun e w' h => by unfold ParsePost parseL; rw [hL, if_neg (by decide)]; exact ⟨h.2, h.1⟩)
  | true =>
    by_cases h0 : n = 0
    · subst h0
      obtain rfl : b = [] := List.length_eq_zero_iff.1 hl
      exact parse_none hL
    · obtain ⟨ad, rfl, hcl⟩ := hr.cells (by omega)
      refine parse_ok hr hl hn hc hm ?_ hL
      have := World.block_lt_of_cell? w _ (hcl 0 (by omega))
      rwa [block_add] at this
end Go.Proofs.YtpghionmmlidnaaGreatDoor.Walks
