/- PathDots answers true: the law. -/
import Derived.Test.YtkfcflnhffmmmaaDoorLawDots
namespace Go.Proofs.YtkfcflnhffmmmaaDoor.Walks
open Go Go.RowKit Go.Proofs.YtkfcflnhffmmmaaDoor.Aid Go.Proofs.YtkfcflnhffmmmaaDoor.Pth Go.Proofs.YtkfcflnhffmmmaaDoor.OwnS Go.Proofs.YtkfcflnhffmmmaaDoorW.PrintWords Go.ChangeShapes Go.WideShapes

theorem flat_bad {ps : List Str} (hn : ps ≠ []) (h : ∀ p ∈ ps, (47 : UInt8) ∉ p ∧ (0 : UInt8) ∉ p ∧ p ≠ []) : Bad (flat ps) = false := by
  refine decide_eq_false ?_
  cases ps with
  | nil => exact absurd rfl hn
  | cons q r =>
    rw [flat_cons]
    have hq := h q List.mem_cons_self
    rintro (e | e | e)
    · exact hq.2.2 (List.append_eq_nil_iff.1 e).1
    · cases q with
      | nil => exact hq.2.2 rfl
      | cons c t =>
        have : c = 47 := by simpa using e
        exact hq.1 (by rw [this]; exact List.mem_cons_self)
    · have hf : ∀ (ps : List Str), (0 : UInt8) ∈ flat ps → ∃ p ∈ ps, (0 : UInt8) ∈ p := fun ps => by
        induction ps with
        | nil => intro e; cases e
        | cons s t ih =>
          intro e
          rw [flat_cons] at e
          rcases List.mem_append.1 e with e | e
          · exact ⟨s, List.mem_cons_self, e⟩
          · rcases List.mem_cons.1 e with e | e
            · exact absurd e (by decide)
            · obtain ⟨p, hp, hz⟩ := ih e
              exact ⟨p, List.mem_cons_of_mem _ hp, hz⟩
      obtain ⟨p, hp, hz⟩ := hf (q :: r) (by rw [flat_cons]; exact e)
      exact (h p hp).2.1 hz
theorem flat_keep {ps : List Str} (h : ∀ p ∈ ps, (47 : UInt8) ∉ p) : keepL (flat ps) = ps.filter Keep := by
  unfold keepL
  rw [flat_parts h, List.filter_append]
  simp [Keep]
theorem flat_clean {ps : List Str} (hn : ps ≠ []) (h : ∀ p ∈ ps, (47 : UInt8) ∉ p ∧ (0 : UInt8) ∉ p ∧ p ≠ []) (hd : ([46, 46] : Str) ∉ ps) (hk : ps.filter Keep ≠ []) (hl : (joinL (ps.filter Keep)).length ≤ 4096) : cleanL (flat ps) = some (joinL (ps.filter Keep)) := by
  have h47 := fun p hp => (h p hp).1
  unfold cleanL
  rw [flat_bad hn h, if_neg (by decide), flat_keep h47, flat_parts h47, if_neg, if_neg]
  · rintro (e | e)
    · exact hk ((joinL_empty keep_ne).1 e)
    · omega
  · simp only [List.mem_append, not_or]
    exact ⟨hd, by decide⟩
theorem flat_dots {ps : List Str} (h47 : ∀ p ∈ ps, (47 : UInt8) ∉ p) (hd : ([46, 46] : Str) ∈ ps) : cleanL (flat ps) = none := by
  unfold cleanL
  rw [flat_parts h47]
  split
  · rfl
  · rw [if_pos (List.mem_append_left _ hd)]
/-- What stands in the law: a cleaned text's parts with another one between. -/
theorem mid_all {xs : List Str} {mid : Str} {k : Nat} (h : Pth.Good xs) (hm : (47 : UInt8) ∉ mid ∧ (0 : UInt8) ∉ mid ∧ mid ≠ []) : ∀ p ∈ xs.take k ++ mid :: xs.drop k, (47 : UInt8) ∉ p ∧ (0 : UInt8) ∉ p ∧ p ≠ [] := fun p hp => by
  rcases List.mem_append.1 hp with hp | hp
  · have := h.2 p (List.mem_of_mem_take hp); exact ⟨this.1, this.2.1, this.2.2.1⟩
  · rcases List.mem_cons.1 hp with rfl | hp
    · exact hm
    · have := h.2 p (List.mem_of_mem_drop hp); exact ⟨this.1, this.2.1, this.2.2.1⟩
theorem mid_dot {xs : List Str} (k : Nat) (h : Pth.Good xs) (hl : (joinL xs).length ≤ 100) : cleanL (flat (xs.take k ++ [46] :: xs.drop k)) = some (joinL xs) := by
  have hf : (xs.take k ++ [46] :: xs.drop k).filter Keep = xs := by
    rw [List.filter_append, List.filter_cons]
    rw [if_neg (by decide), ← List.filter_append, List.take_append_drop]
    exact good_keep h
  have := flat_clean (ps := xs.take k ++ [46] :: xs.drop k) (by simp) (mid_all h (by decide)) (by
    intro e
    rcases List.mem_append.1 e with e | e
    · exact (h.2 _ (List.mem_of_mem_take e)).2.2.2.2 rfl
    · rcases List.mem_cons.1 e with e | e
      · exact absurd e (by decide)
      · exact (h.2 _ (List.mem_of_mem_drop e)).2.2.2.2 rfl) (by rw [hf]; exact h.1) (by rw [hf]; omega)
  rw [hf] at this
  exact this
theorem mid_two {xs : List Str} (k : Nat) (h : Pth.Good xs) : cleanL (flat (xs.take k ++ [46, 46] :: xs.drop k)) = none :=
  flat_dots (fun p hp => (mid_all (mid := [46, 46]) h (by decide) p hp).1) (by simp)
theorem mid_three {xs : List Str} (k : Nat) (h : Pth.Good xs) (hl : (joinL xs).length ≤ 100) : ∃ d, cleanL (flat (xs.take k ++ [46, 46, 46] :: xs.drop k)) = some d ∧ d.length = (joinL xs).length + 4 := by
  have hg : Pth.Good (xs.take k ++ [46, 46, 46] :: xs.drop k) := ⟨by simp, fun p hp => by
    rcases List.mem_append.1 hp with hp | hp
    · exact h.2 p (List.mem_of_mem_take hp)
    · rcases List.mem_cons.1 hp with rfl | hp
      · decide
      · exact h.2 p (List.mem_of_mem_drop hp)⟩
  have ht : total (xs.take k ++ [46, 46, 46] :: xs.drop k) = total xs + 4 := by
    rw [total_append, total_cons]
    conv => rhs; rw [← List.take_append_drop k xs, total_append]
    simp; omega
  have h1 : (joinL xs).length + 1 = total xs := by
    cases hx : xs with
    | nil => exact absurd hx h.1
    | cons x r => exact join_len x r
  have h2 : (joinL (xs.take k ++ [46, 46, 46] :: xs.drop k)).length + 1 = total (xs.take k ++ [46, 46, 46] :: xs.drop k) := by
    cases hx : xs.take k ++ [46, 46, 46] :: xs.drop k with
    | nil => exact absurd hx hg.1
    | cons x r => exact join_len x r
  have hk := good_keep hg
  have := flat_clean hg.1 (mid_all h (by decide)) (fun e => (hg.2 _ e).2.2.2.2 rfl) (by rw [hk]; exact hg.1) (by rw [hk]; omega)
  rw [hk] at this
  exact ⟨_, this, by omega⟩
theorem abs_none (c : Str) : cleanL (47 :: c) = none := by unfold cleanL Bad; rw [if_pos (by simp)]
theorem nul_none (c : Str) : cleanL (c ++ [0]) = none := by unfold cleanL Bad; rw [if_pos (by simp)]
theorem cut_at (cut : Int) (n : Nat) (hn : n ≤ 1000000) : ∃ k : Nat, k ≤ n ∧ wrap64 ((IntKind.u64.wrap cut).tmod ((n : Int) + 1)) = (k : Int) := by
  have h0 : 0 ≤ IntKind.u64.wrap cut := by rw [u64_wrap]; omega
  generalize IntKind.u64.wrap cut = x at *
  rw [tmod_pos h0]
  have h1 : 0 ≤ x % ((n : Int) + 1) := Int.emod_nonneg _ (by omega)
  have h2 : x % ((n : Int) + 1) < (n : Int) + 1 := Int.emod_lt_of_pos _ (by omega)
  generalize x % ((n : Int) + 1) = y at *
  refine ⟨y.toNat, by omega, ?_⟩
  rw [wrap64_in (by omega) (by omega)]; omega
theorem dots_world (w : World) (A : Option Addr) (n c k : Nat) : ((w.alloc (.cells #[.slice A n c] 27)).alloc (.cells #[.int .i64 (k : Int)] 3)).cell? ⟨w.heap.size, 0, none⟩ = some (.slice A n c) ∧
    ((w.alloc (.cells #[.slice A n c] 27)).alloc (.cells #[.int .i64 (k : Int)] 3)).cell? ⟨w.heap.size + 1, 0, none⟩ = some (.int .i64 (k : Int)) ∧ Only (fun _ => False) w ((w.alloc (.cells #[.slice A n c] 27)).alloc (.cells #[.int .i64 (k : Int)] 3)) := by
  refine ⟨?_, ?_, ((Only.refl _ w).alloc _).alloc _⟩
  · have := Joins.cell_of_block ((alloc_old (w.alloc (.cells #[.slice A n c] 27)) (.cells #[.int .i64 (k : Int)] 3) (by rw [alloc_size]; omega)).trans (alloc_new w (.cells #[.slice A n c] 27))) 0
    exact this
  · have h := alloc_new (w.alloc (.cells #[.slice A n c] 27)) (.cells #[.int .i64 (k : Int)] 3)
    rw [alloc_size] at h
    exact Joins.cell_of_block h 0
set_option maxRecDepth 100000 in
set_option maxHeartbeats 8000000 in
theorem dots_any (S : ByteArray) (at_ : Int) (w : World) (hs : S.size ≤ 100) (hm : MaxLen w) : Calls Tryd.prog 7 #[.string S, .int .i64 at_] w (BoolPost true w) := by
  have HM := Lib.hid hm
  have HS := Lib.hid (show S.size ≤ 500000 by omega)
  have a1 : decide ((S.size : Int) > 100) = false := decide_eq_false (by omega)
  have a1' : decide (S.size > 100) = false := decide_eq_false (by omega)
  have hsl : S.data.toList.length ≤ 100 := hs
  clear hm hs
  cases hc : cleanL S.data.toList with
  | none =>
    have HC := Lib.hid (clean_none hc)
    clear hc
    go_enter Tryd.func7, Tryd.ntmps7
    go_wp2_with fail
    refine (clean_any S w HS.out HM.out).mono ?_
    rintro x w1 ⟨rfl, h1⟩
    rw [HC.out.1, HC.out.2]
    have H1 := Lib.hid h1
    clear h1
    go_wp2_with fail
    refine (told_any w1 (HM.out.only H1.out)).mono ?_
    rintro x w2 ⟨rfl, h2⟩
    have H2 := Lib.hid (H1.out.trans' h2)
    clear h2
    go_wp2_with fail
    go_ret
    exact ⟨rfl, H2.out⟩
  | some c =>
    have HC := Lib.hid (clean_some hc)
    obtain ⟨hg, hcj, hc4, _, _⟩ := clean_yes hc
    have hid := clean_idem hc
    obtain ⟨xs, hxs⟩ : ∃ xs, keepL S.data.toList = xs := ⟨_, rfl⟩
    have hcl : c.length ≤ 100 := by rw [hcj]; have := keep_len S.data.toList; omega
    rw [hxs] at hg hcj hid
    have htot : total xs ≤ 101 := by
      cases hx : xs with
      | nil => exact absurd hx hg.1
      | cons x r =>
        have := join_len x r
        rw [← hx, ← hcj] at this
        rw [hx] at this
        omega
    obtain ⟨C, hC⟩ : ∃ C, B c = C := ⟨_, rfl⟩
    have hCd : C.data.toList = c := by rw [← hC, B_data]
    have HCs := Lib.hid (show C.size ≤ 100 by rw [← hC, B_size]; exact hcl)
    have HSp := Lib.hid (show splitL C.data.toList = xs by rw [hCd]; exact hid.2)
    have HG := Lib.hid hg
    have HTot := Lib.hid htot
    have HXl := Lib.hid (show xs.length ≤ 101 by
      have h : ∀ ys : List Str, ys.length ≤ total ys := fun ys => by
        induction ys with
        | nil => exact Nat.zero_le _
        | cons x ys ih => rw [total_cons, List.length_cons]; omega
      have := h xs; omega)
    have HCj := Lib.hid (show C = B (joinL xs) by rw [← hC, hcj])
    have HJl := Lib.hid (show (joinL xs).length ≤ 100 by rw [← hcj]; exact hcl)
    have f4 : (C.toList == C.toList) = true := beq_self_eq_true _
    have s1 : ¬ (1 + C.size > 9223372036854775807) := by have := HCs.out; omega
    have s2 : ¬ (C.size + 1 > 9223372036854775807) := by have := HCs.out; omega
    have b1 : (C.size : Int) ≤ 100 := by have := HCs.out; omega
    rw [hC] at HC
    clear hc hg hcj hc4 hid hxs hcl htot hC hCd hsl
    go_enter Tryd.func7, Tryd.ntmps7
    go_wp2_with fail
    refine (clean_any S w HS.out HM.out).mono ?_
    rintro x w1 ⟨rfl, h1⟩
    rw [HC.out.1, HC.out.2]
    have H1 := Lib.hid h1
    clear h1
    go_wp2_with fail
    refine (split_right C w1 (by have := HCs.out; omega) (HM.out.only H1.out)).mono ?_
    rintro x w2 ⟨A, cc, rfl, hk, hR, h2⟩
    rw [HSp.out] at hk hR ⊢
    have HR := Lib.hid hR
    have H2 := Lib.hid (H1.out.trans' h2)
    clear hR h2 H1
    obtain ⟨n, hn⟩ : ∃ n, xs.length = n := ⟨_, rfl⟩
    rw [hn] at hk ⊢
    have HN := Lib.hid hn
    have b2 : (n : Int) ≤ 101 := by have := HXl.out; omega
    clear hn
    go_upto_region 8 with (fail)
    obtain ⟨k, hkn, ek⟩ := cut_at at_ n (by omega)
    rw [ek]
    have HW := Lib.hid (dots_world w2 A n cc k)
    obtain ⟨T, hT⟩ : ∃ T, (w2.alloc (.cells #[.slice A n cc] 27)).alloc (.cells #[.int .i64 (k : Int)] 3) = T := ⟨_, rfl⟩
    obtain ⟨g, hg⟩ : ∃ g, w2.heap.size = g := ⟨_, rfl⟩
    rw [hT] at HW ⊢
    rw [hg] at HW ⊢
    have H3 := Lib.hid (H2.out.trans' HW.out.2.2)
    have HRt := Lib.hid (HR.out.only HW.out.2.2)
    have HK := Lib.hid hkn
    have hmf : ∀ (fn : Fn) (first cap : Array Value) (w : World), (Instr.makeFunc fn first cap).run Tryd.prog w = .ok (.func fn first cap) w := fun _ _ _ _ => rfl
    clear ek hT hg HR H2 hkn
    -- join(".")
    have HD1 := Lib.hid (mid_dot k HG.out HJl.out)
    have HD2 := Lib.hid (mid_two k HG.out)
    have HD3 := Lib.hid (mid_three k HG.out HJl.out)
    have HF := Lib.hid (fun mid : Str => show (B (flat (xs.take k ++ mid :: xs.drop k))).size ≤ 203 + mid.length by
      rw [B_size, flat_len, total_append, total_cons]
      have h1 := total_take xs k
      have h2 := total_drop xs k
      have := HTot.out
      omega)
    go_wp2_with fail
    refine (dots_join [46] HN.out HK.out (by simp) (by simp) HTot.out HW.out.1 HW.out.2.1 HRt.out).mono ?_
    rintro x w4 ⟨rfl, rfl⟩
    obtain ⟨P1, hP1⟩ : ∃ P, B (flat (xs.take k ++ [46] :: xs.drop k)) = P := ⟨_, rfl⟩
    have HP1 := Lib.hid (show P1.size ≤ 500000 by rw [← hP1]; have := HF.out [46]; simp at this; omega)
    have HC1 := Lib.hid (clean_some (S := P1) (c := joinL xs) (by rw [← hP1, B_data]; exact HD1.out))
    rw [← HCj.out] at HC1
    rw [hP1]
    clear hP1
    go_wp2_with fail
    refine (clean_any P1 _ HP1.out (HM.out.only H3.out)).mono ?_
    rintro x w5 ⟨rfl, h5⟩
    rw [HC1.out.1, HC1.out.2]
    have H5 := Lib.hid (H3.out.trans' h5)
    have hc5 := h5.cell HW.out.1 id
    have hk5 := h5.cell HW.out.2.1 id
    have HR5 := Lib.hid (HRt.out.only h5)
    have HW5 := Lib.hid (And.intro hc5 hk5)
    clear h5 hc5 hk5
    go_wp2_with fail
    refine (dots_join [46, 46] HN.out HK.out (by simp) (by simp) HTot.out HW5.out.1 HW5.out.2 HR5.out).mono ?_
    rintro x w6 ⟨rfl, rfl⟩
    obtain ⟨P2, hP2⟩ : ∃ P, B (flat (xs.take k ++ [46, 46] :: xs.drop k)) = P := ⟨_, rfl⟩
    have HP2 := Lib.hid (show P2.size ≤ 500000 by rw [← hP2]; have := HF.out [46, 46]; simp at this; omega)
    have HC2 := Lib.hid (clean_none (S := P2) (by rw [← hP2, B_data]; exact HD2.out))
    rw [hP2]
    clear hP2
    go_wp2_with fail
    refine (clean_any P2 _ HP2.out (HM.out.only H5.out)).mono ?_
    rintro x w7 ⟨rfl, h7⟩
    rw [HC2.out.1, HC2.out.2]
    have H7 := Lib.hid (H5.out.trans' h7)
    have HW7 := Lib.hid (And.intro (h7.cell HW5.out.1 id) (h7.cell HW5.out.2 id))
    have HR7 := Lib.hid (HR5.out.only h7)
    clear h7
    have HC3 := Lib.hid (clean_none (S := ⟨#[47]⟩ ++ C) (by rw [concat_B, B_data]; exact abs_none _))
    have HC4 := Lib.hid (clean_none (S := C ++ ⟨#[0]⟩) (by rw [concat_B, B_data]; exact nul_none _))
    have HP3 := Lib.hid (show (⟨#[47]⟩ ++ C : ByteArray).size ≤ 500000 by rw [ByteArray.size_append]; have := HCs.out; show 1 + C.size ≤ 500000; omega)
    have HP4 := Lib.hid (show (C ++ ⟨#[0]⟩ : ByteArray).size ≤ 500000 by rw [ByteArray.size_append]; have := HCs.out; show C.size + 1 ≤ 500000; omega)
    go_wp2_with fail
    refine (clean_any _ _ HP3.out (HM.out.only H7.out)).mono ?_
    rintro x w8 ⟨rfl, h8⟩
    rw [HC3.out.1, HC3.out.2]
    have H8 := Lib.hid (H7.out.trans' h8)
    have HW8 := Lib.hid (And.intro (h8.cell HW7.out.1 id) (h8.cell HW7.out.2 id))
    have HR8 := Lib.hid (HR7.out.only h8)
    clear h8
    go_wp2_with fail
    refine (clean_any _ _ HP4.out (HM.out.only H8.out)).mono ?_
    rintro x w9 ⟨rfl, h9⟩
    rw [HC4.out.1, HC4.out.2]
    have H9 := Lib.hid (H8.out.trans' h9)
    have HW9 := Lib.hid (And.intro (h9.cell HW8.out.1 id) (h9.cell HW8.out.2 id))
    have HR9 := Lib.hid (HR8.out.only h9)
    clear h9
    go_wp2_with fail
    refine (dots_join [46, 46, 46] HN.out HK.out (by simp) (by simp) HTot.out HW9.out.1 HW9.out.2 HR9.out).mono ?_
    rintro x w10 ⟨rfl, rfl⟩
    obtain ⟨P5, hP5⟩ : ∃ P, B (flat (xs.take k ++ [46, 46, 46] :: xs.drop k)) = P := ⟨_, rfl⟩
    have HP5 := Lib.hid (show P5.size ≤ 500000 by rw [← hP5]; have := HF.out [46, 46, 46]; simp at this; omega)
    obtain ⟨d, hd, hdl⟩ := HD3.out
    have HC5 := Lib.hid (clean_some (S := P5) (c := d) (by rw [← hP5, B_data]; exact hd))
    obtain ⟨D, hD⟩ : ∃ D, B d = D := ⟨_, rfl⟩
    rw [hD] at HC5
    have hDs : D.size = C.size + 4 := by rw [← hD, B_size, hdl, HCj.out, B_size]
    rw [hP5]
    clear hP5 hd hdl hD
    have z1 : decide ((D.size : Int) ≥ (C.size : Int) + 3) = true := decide_eq_true (by omega)
    have z2 : decide ((C.size : Int) + 3 ≤ (D.size : Int)) = true := decide_eq_true (by omega)
    have z3 : decide (C.size + 3 ≤ D.size) = true := decide_eq_true (by omega)
    clear hDs
    go_wp2_with fail
    refine (clean_any P5 _ HP5.out (HM.out.only H9.out)).mono ?_
    rintro x w11 ⟨rfl, h11⟩
    rw [HC5.out.1, HC5.out.2]
    have H11 := Lib.hid (H9.out.trans' h11)
    clear h11
    go_wp2_with fail
    refine (told_any _ (HM.out.only H11.out)).mono ?_
    rintro x w12 ⟨rfl, h12⟩
    have H12 := Lib.hid (H11.out.trans' h12)
    clear h12
    go_wp2_with fail
    go_ret
    exact ⟨rfl, H12.out⟩
theorem lawDots {H : Type} {enc : TypeId × Value → H} {W : World} {base : Nat} {v0 v1 : Value} {d0 d1 : DataW H} {p0 p1 : List MemPlace} {ts : List TypeId} {ds : List (DataW H)} (hm : MaxLen W)
    (ov0 : Value.okWide Tryd.prog W .any base 9 v0) (k0 : DataW.Trod enc Tryd.prog W 0 (fun _ => true) true 9 v0 d0 p0)
    (ov1 : Value.okWide Tryd.prog W .any base 3 v1) (k1 : DataW.Trod enc Tryd.prog W 0 (fun _ => true) true 3 v1 d1 p1)
    (_ : (DataW.weightsEach Tryd.prog ts ds).all (· ≤ reachBytes) = true) :
    Calls Tryd.prog 7 #[v0, v1] W fun e w' => e = .returned (.bool true) ∧ Below W.heap.size W w' := by
  obtain ⟨S, rfl, _, _, wS⟩ := Go.ChangeMaps.open_string Tryd.underlying9 ov0 k0
  obtain ⟨n, rfl, _, _, _⟩ := open_int Tryd.underlying3 ov1 k1
  by_cases hs : S.size ≤ 100
  · exact (dots_any S n W hs hm).mono fun x w' h => ⟨h.1, h.2.none⟩
  · have h1 : decide ((S.size : Int) > 100) = true := decide_eq_true (by omega)
    have h1' : decide (S.size > 100) = true := decide_eq_true (by omega)
    have HM := Lib.hid hm
    clear k0 k1 ov0 ov1 hm
    go_enter Tryd.func7, Tryd.ntmps7
    go_wp2_with fail
    refine (told_any _ HM.out).mono ?_
    rintro x w4 ⟨rfl, hb4⟩
    go_wp2_with fail
    go_ret
    exact ⟨rfl, hb4.none⟩
end Go.Proofs.YtkfcflnhffmmmaaDoor.Walks
