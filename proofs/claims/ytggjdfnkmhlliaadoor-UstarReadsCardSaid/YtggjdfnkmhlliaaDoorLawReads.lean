/- UstarReads: the law's function says yes of all bytes and every header. -/
import Derived.Test.YtggjdfnkmhlliaaDoorOpenH
namespace Go.Proofs.YtggjdfnkmhlliaaDoor.Walks
open Go Go.RowKit Go.Proofs.YtggjdfnkmhlliaaDoor.Aid Go.Proofs.YtggjdfnkmhlliaaDoor.Own Go.Proofs.YtggjdfnkmhlliaaDoorW.PrintWords

theorem put_cases (H : Hdr) : (∃ e, putL H = ([], e) ∧ e ≠ 0) ∨ (putL H = (bodyP H, 0) ∧ fitAll H = true ∧ numAll H = true) := by
  unfold putL
  by_cases c1 : fitAll H = true
  · rw [if_pos c1]
    by_cases c2 : numAll H = true
    · rw [if_pos c2]; exact Or.inr ⟨rfl, c1, c2⟩
    · rw [if_neg c2]; exact Or.inl ⟨7, rfl, by decide⟩
  · rw [if_neg c1]; exact Or.inl ⟨1, rfl, by decide⟩
theorem put_two (H : Hdr) : (putL H).2 ≠ 0 ∨ (putL H).1.length = 512 := by
  rcases put_cases H with ⟨e, h, he⟩ | ⟨h, hf, hn⟩
  · rw [h]; exact Or.inl he
  · rw [h]; exact Or.inr (body_is hf hn).len
theorem mod_at (x : Int) : ∃ k : Nat, (Int.tmod x 512 + 512) % 512 = (k : Int) ∧ k < 512 ∧ -512 < Int.tmod x 512 ∧ Int.tmod x 512 < 512 := by
  have h1 := Int.tmod_lt_of_pos x (show (0 : Int) < 512 by decide)
  have h2 := Int.lt_tmod_of_pos x (show (0 : Int) < 512 by decide)
  exact ⟨((Int.tmod x 512 + 512) % 512).toNat, by omega, by omega, by omega, h1⟩
def hX : Hdr := ⟨[120], [], [], 0, 0, 0, 0, 0, 53, [], []⟩
theorem hX_ok : HOk hX := ⟨by decide, by decide, by decide, by decide, by decide, by decide, by decide, by decide, by decide, by decide⟩
theorem hX_put : putL hX = (bodyP hX, 0) := by unfold putL; rw [if_pos (show fitAll hX = true by decide), if_pos (show numAll hX = true by decide)]
theorem hX_len : (bodyP hX).length = 512 := (body_is (show fitAll hX = true by decide) (show numAll hX = true by decide)).len
theorem bytes_ints (t : Str) : ∀ x ∈ ints t, 0 ≤ x ∧ x < 256 := fun x hx => by
  obtain ⟨y, _, rfl⟩ := List.mem_map.1 hx
  have := y.toNat_lt
  omega
theorem set_bytes {m : List Int} {k : Nat} {y : Int} (h : ∀ x ∈ m, 0 ≤ x ∧ x < 256) (hy : 0 ≤ y ∧ y < 256) : ∀ x ∈ m.set k y, 0 ≤ x ∧ x < 256 := fun x hx => by
  rcases List.mem_or_eq_of_mem_set hx with h1 | h1
  · exact h x h1
  · rw [h1]; exact hy
theorem conv_put {w : World} {g cap : Nat} {m : List Int} (h : ConvAt w g cap m) (k : Nat) (y : Int) (hk : k < m.length) : ConvAt (w.setCell ⟨g, k, none⟩ (.int .u8 y)) g cap (m.set k y) := by
  obtain ⟨h1, h2, h3⟩ := h
  refine ⟨by rw [List.length_set]; exact h1, fun j hj => ?_, fun j hj => ?_⟩
  · rw [List.length_set] at hj
    by_cases e : j = k
    · subst e
      rw [World.cell?_setCell_same' _ _ _ (by rw [h2 j hj]; rfl)]
      simp only [List.getD_eq_getElem?_getD]
      rw [List.getElem?_set_self hj]; rfl
    · rw [World.cell?_setCell_other _ _ _ _ (fun e2 => e (by injection e2 with _ e3; exact e3.symm))]
      rw [h2 j hj]
      simp only [List.getD_eq_getElem?_getD]
      rw [List.getElem?_set_ne (fun e2 => e e2.symm)]
  · obtain ⟨h4, h5⟩ := h3 j hj
    refine ⟨?_, by rw [World.frozen?_setCell]; exact h5⟩
    by_cases e : j = k
    · subst e
      rw [World.cell?_setCell_same' _ _ _ h4]; rfl
    · rw [World.cell?_setCell_other _ _ _ _ (fun e2 => e (by injection e2 with _ e3; exact e3.symm))]; exact h4
theorem bytes_str {m : List Int} (h : ∀ x ∈ m, 0 ≤ x ∧ x < 256) : ∃ l : Str, ints l = m := by
  refine ⟨m.map (fun x => UInt8.ofNat x.toNat), ?_⟩
  unfold ints
  rw [List.map_map]
  conv => rhs; rw [← List.map_id m]
  refine List.map_congr_left (fun x hx => ?_)
  have := h x hx
  show ((UInt8.ofNat x.toNat).toNat : Int) = x
  rw [UInt8.toNat_ofNat']; omega
theorem conv_rd {w : World} {g cap : Nat} {m : List Int} {l : Str} (h : ConvAt w g cap m) (_hn : m.length = 512) (e : ints l = m) : RdU w (some ⟨g, 0, none⟩) l := fun _ =>
  ⟨_, rfl, fun j hj => by rw [add_flat, Nat.zero_add, e]; exact h.2.1 j (by rw [← e]; exact hj)⟩
set_option maxRecDepth 100000 in
set_option maxHeartbeats 4000000 in
theorem reads_any (H : Hdr) {A0 : Option Addr} {l : Str} {nb cb : Nat} (at0 : Int) (by0 : UInt8) (rt : Bool) (w : World) (hin : HIn H) (hl : l.length = nb) (hc : nb ≤ cb) (hA : RdU w A0 l) (hm : MaxLen w) : Calls Tryd.prog 3 #[.slice A0 nb cb, hval H, .int .i64 at0, .int .u8 (by0.toNat : Int), .bool rt] w (BoolPost true w) := by
  have HIn := Lib.hid hin
  have HO := Lib.hid ((Only.refl (fun _ => False) w).alloc (.cells (hrow H) 24))
  have hb := alloc_new w (.cells (hrow H) 24)
  obtain ⟨g1, hg1⟩ : ∃ g1, w.heap.size = g1 := ⟨_, rfl⟩
  obtain ⟨W, hW⟩ : ∃ W, w.alloc (.cells (hrow H) 24) = W := ⟨_, rfl⟩
  rw [hW, hg1] at hb
  rw [hW] at HO
  have HBk := Lib.hid hb
  have HGW := Lib.hid (And.intro hg1 hW)
  have HMW := Lib.hid (hm.only HO.out)
  have HAr := Lib.hid (hA.only HO.out)
  have HL0 := Lib.hid hl
  have HC0 := Lib.hid hc
  have c0 : W.cell? ⟨g1, 0, none⟩ = some (.string (B H.name)) := Joins.cell_of_block hb 0
  have c1 : W.cell? ⟨g1, 1, none⟩ = some (.string (B H.pre)) := Joins.cell_of_block hb 1
  have c2 : W.cell? ⟨g1, 2, none⟩ = some (.string (B H.target)) := Joins.cell_of_block hb 2
  have c9 : W.cell? ⟨g1, 9, none⟩ = some (.string (B H.user)) := Joins.cell_of_block hb 9
  have c10 : W.cell? ⟨g1, 10, none⟩ = some (.string (B H.group)) := Joins.cell_of_block hb 10
  clear hg1 hW hb hm hin hA hl hc
  go_enter Tryd.func3, Tryd.ntmps3
  go_upto_region 1 with (fail)
  change Code.wp Tryd.prog _ _ _ (w.alloc (.cells (hrow H) 24))
  rw [HGW.out.2, HGW.out.1]
  by_cases a0 : nb ≤ 600
  · have e0 : decide (((nb : Nat) : Int) > 600) = false := decide_eq_false (by omega)
    have e0' : decide (600 < nb) = false := decide_eq_false (by omega)
    by_cases a1 : (B H.name).size ≤ 200
    · have e1 : decide ((((B H.name).size : Nat) : Int) > 200) = false := decide_eq_false (by omega)
      have e1' : decide (200 < (B H.name).size) = false := decide_eq_false (by omega)
      by_cases a2 : (B H.pre).size ≤ 200
      · have e2 : decide ((((B H.pre).size : Nat) : Int) > 200) = false := decide_eq_false (by omega)
        have e2' : decide (200 < (B H.pre).size) = false := decide_eq_false (by omega)
        by_cases a3 : (B H.target).size ≤ 200
        · have e3 : decide ((((B H.target).size : Nat) : Int) > 200) = false := decide_eq_false (by omega)
          have e3' : decide (200 < (B H.target).size) = false := decide_eq_false (by omega)
          by_cases a4 : (B H.user).size ≤ 200
          · have e4 : decide ((((B H.user).size : Nat) : Int) > 200) = false := decide_eq_false (by omega)
            have e4' : decide (200 < (B H.user).size) = false := decide_eq_false (by omega)
            by_cases a5 : (B H.group).size ≤ 200
            · have e5 : decide ((((B H.group).size : Nat) : Int) > 200) = false := decide_eq_false (by omega)
              have e5' : decide (200 < (B H.group).size) = false := decide_eq_false (by omega)
              have hH : HOk H := HIn.out.ok (n := 200) (by decide) (by rw [← B_size]; exact a1) (by rw [← B_size]; exact a2) (by rw [← B_size]; exact a3) (by rw [← B_size]; exact a4) (by rw [← B_size]; exact a5)
              have HP1 := Lib.hid (fun u => rput_any (H := H) u hH)
              have HA0 := Lib.hid a0
              clear a0 a1 a2 a3 a4 a5 hH
              have HPC := Lib.hid (put_two H)
              obtain ⟨t0, ht0⟩ : ∃ t0, (putL H).1 = t0 := ⟨_, rfl⟩
              obtain ⟨e9, he9⟩ : ∃ e9, (putL H).2 = e9 := ⟨_, rfl⟩
              replace HP1 := Lib.hid (show ∀ u, Calls Tryd.prog 9 #[hval H] u (fun x u' => x = .returned (.tuple #[.string (B t0), .int .i64 e9]) ∧ Only (fun _ => False) u u') by rw [← ht0, ← he9]; exact HP1.out)
              rw [ht0, he9] at HPC
              clear ht0 he9
              go_upto_if 63 with (first
                | (with_reducible refine gate 58 rfl ?_; refine load_hdr rfl _ rfl rfl HBk.out ?_)
                | (go_at_call 9; refine (HP1.out _).mono ?_; rintro x w1 ⟨rfl, h1⟩))
              have H1 := Lib.hid h1
              clear h1 c0 c1 c2 c9 c10
              go_cut [11] (fun v11 wx => ∃ t : Str, v11 = .string (B t) ∧ Hid (t.length = 512) ∧ Hid (Only (fun _ => False) W wx))
              case first =>
                by_cases ce : e9 = 0
                · have d0 : (e9 != 0) = false := by rw [ce]; rfl
                  have HB := Lib.hid (HPC.out.resolve_left (fun h => h ce))
                  clear ce
                  go_wp2_with fail
                  go_meet
                  exact ⟨t0, rfl, HB, H1⟩
                · have d0 : (e9 != 0) = true := bne_iff_ne.mpr ce
                  clear ce
                  go_wp2_with fail
                  refine (rput_any (H := hX) _ hX_ok).mono ?_
                  rintro x w2 ⟨rfl, h2⟩
                  rw [hX_put]
                  have H2 := Lib.hid (H1.out.trans' h2)
                  have HL9 := Lib.hid hX_len
                  obtain ⟨T9, hT9⟩ : ∃ T9, bodyP hX = T9 := ⟨_, rfl⟩
                  rw [hT9] at HL9 ⊢
                  clear h2 hT9
                  go_wp2_with fail
                  go_meet
                  exact ⟨T9, rfl, HL9, H2⟩
              case rest =>
                obtain ⟨t, rfl, HTl, HWc⟩ := hcut
                clear H1 HP1
                have HBt := Lib.hid (bytes_ints t)
                obtain ⟨k, hk, hk5, hk1, hk2⟩ := mod_at at0
                have HK5 := Lib.hid hk5
                have hlt : (k : Int) < 512 := by omega
                go_upto_region 8 with (first
                  | (with_reducible refine gate 70 rfl ?_
                     refine conv_law (base := wc.heap.size) (w0 := wc) rfl (.tmp 69) rfl (B t) rfl (ints t) (ints_str t).symm HBt.out (Below.refl _ _) (Nat.le_refl _) ?_
                     intro g cap w2 hC2 hg2 hB2 hs2))
                rw [hk, ints_len, HTl.out]
                have HC2 := Lib.hid hC2
                have H2 := Lib.hid (HWc.out.trans' (Only.of_below hB2 (fun _ => False)))
                have HG := Lib.hid (show W.heap.size ≤ g from Nat.le_trans HWc.out.size hg2)
                clear hC2 hg2 hB2 hs2 hk hk1 hk2 hk5
                have ck := HC2.out.2.1 k (by rw [ints_len, HTl.out]; exact HK5.out)
                have hcap : 512 ≤ cap := by have := HC2.out.1; rw [ints_len, HTl.out] at this; exact this
                have HCap := Lib.hid hcap
                have fk := (HC2.out.2.2 k (by have := HK5.out; omega)).2
                obtain ⟨xb, hxb⟩ : ∃ xb, (ints t).getD k 0 = xb := ⟨_, rfl⟩
                have hxr : 0 ≤ xb ∧ xb < 256 := by
                  rw [← hxb, ints_get (by rw [HTl.out]; exact HK5.out)]
                  have := (t.getD k 0).toNat_lt
                  omega
                rw [hxb] at ck
                obtain ⟨xn, rfl⟩ : ∃ xn : Nat, xb = xn := ⟨xb.toNat, by omega⟩
                have hxor := xor_nat stays_u8 (a := xn) (b := by0.toNat) (by omega) (by have := by0.toNat_lt; omega)
                obtain ⟨yn, hyn⟩ : ∃ yn : Nat, xn ^^^ by0.toNat = yn := ⟨_, rfl⟩
                have hyr : yn < 256 := by rw [← hyn]; exact Nat.xor_lt_two_pow (n := 8) (by omega) (by have := by0.toNat_lt; omega)
                rw [hyn] at hxor
                have HM1 := Lib.hid (set_bytes (k := k) HBt.out (show 0 ≤ (yn : Int) ∧ (yn : Int) < 256 by omega))
                have HML := Lib.hid (show ((ints t).set k (yn : Int)).length = 512 by rw [List.length_set, ints_len, HTl.out])
                have HM2 := Lib.hid (conv_put HC2.out k (yn : Int) (by rw [ints_len, HTl.out]; exact HK5.out))
                have H3 := Lib.hid (H2.out.setCell (p := ⟨g, k, none⟩) (Or.inr HG.out) (.int .u8 (yn : Int)))
                clear hxb hyn hyr hxr hcap
                go_upto_if 84 with (fail)
                obtain ⟨U, hU⟩ : ∃ U, w2.setCell ⟨g, k, none⟩ (.int .u8 (yn : Int)) = U := ⟨_, rfl⟩
                obtain ⟨M, hM⟩ : ∃ M, (ints t).set k (yn : Int) = M := ⟨_, rfl⟩
                rw [hU] at HM2 H3 ⊢
                rw [hM] at HM1 HML HM2
                clear hU hM ck fk hxor HC2 H2 hlt
                clear w2
                go_cut [] (fun wx => ∃ m : List Int, Hid (m.length = 512) ∧ Hid (∀ x ∈ m, 0 ≤ x ∧ x < 256) ∧ Hid (ConvAt wx g cap m) ∧ Hid (Only (fun _ => False) W wx))
                case first =>
                  cases rt with
                  | false =>
                    go_wp2_with fail
                    go_meet
                    exact ⟨M, HML, HM1, HM2, H3⟩
                  | true =>
                    obtain ⟨Mu, HMu⟩ := bytes_str (m := M) HM1.out
                    have HRU := Lib.hid (conv_rd HM2.out (by rw [HML.out]) HMu)
                    have HLu := Lib.hid (show Mu.length = 512 by rw [← ints_len, HMu, HML.out])
                    have HZ := Lib.hid (sumOf_in HLu.out)
                    have HSa := Lib.hid (rsum_any (c := cap) HLu.out HRU.out)
                    obtain ⟨z, hz⟩ : ∃ z, sumOf Mu = z := ⟨_, rfl⟩
                    rw [hz] at HSa HZ
                    clear hz HRU HMu
                    go_wp2_with (go_at_call 10; refine HSa.out.mono ?_; rintro x w4 ⟨rfl, rfl⟩)
                    go_loopw [16] (fun v16 u => ∃ (i : Nat) (m : List Int), v16 = .int .i64 (i : Int) ∧ i ≤ 6 ∧ Hid (m.length = 512) ∧ Hid (∀ x ∈ m, 0 ≤ x ∧ x < 256) ∧ Hid (ConvAt u g cap m) ∧ Hid (Only (fun _ => False) W u)) (fun i _ => 6 - (intOf i).toNat)
                    case atStart => exact ⟨0, M, rfl, by decide, HML, HM1, HM2, H3⟩
                    case round =>
                      clear HML HM1 HM2 H3
                      obtain ⟨i, m, rfl, hi, HL, HBm, HCm, HOm⟩ := hrel
                      have z0 : 0 ≤ z := HZ.out.1
                      have z1 : z ≤ 130560 := HZ.out.2
                      by_cases ci : i < 6
                      · have d1 : decide ((i : Int) < 6) = true := decide_eq_true (by omega)
                        have hcj := HCm.out.2.1 (153 - i) (by rw [HL.out]; omega)
                        have hfj := (HCm.out.2.2 (153 - i) (by have := HCap.out; omega)).2
                        obtain ⟨y, hy⟩ : ∃ y, m.getD (153 - i) 0 = y := ⟨_, rfl⟩
                        rw [hy] at hcj
                        clear hy
                        rcases (show i = 0 ∨ i = 1 ∨ i = 2 ∨ i = 3 ∨ i = 4 ∨ i = 5 by omega) with rfl | rfl | rfl | rfl | rfl | rfl
                        · have t7 := and7_i64 z
                          have t8 : IntKind.u8.wrap (z % 8) = z % 8 := by rw [IntKind.wrap_u8]; omega
                          have HP9 := Lib.hid (conv_put HCm.out 153 (48 + z % 8) (by rw [HL.out]; decide))
                          have HQ9 := Lib.hid (set_bytes (k := 153) HBm.out (show 0 ≤ 48 + z % 8 ∧ 48 + z % 8 < 256 by omega))
                          have HO9 := Lib.hid (HOm.out.setCell (p := ⟨g, 153, none⟩) (Or.inr HG.out) (.int .u8 (48 + z % 8)))
                          clear t8
                          go_wp2_with fail
                          exact ⟨⟨1, m.set 153 (48 + z % 8), rfl, by decide, Lib.hid (by rw [List.length_set]; exact HL.out), HQ9, HP9, HO9⟩, by decide⟩
                        · have t7 := and7_i64 (z / 8)
                          have t8 : IntKind.u8.wrap ((z / 8) % 8) = (z / 8) % 8 := by rw [IntKind.wrap_u8]; omega
                          have HP9 := Lib.hid (conv_put HCm.out 152 (48 + (z / 8) % 8) (by rw [HL.out]; decide))
                          have HQ9 := Lib.hid (set_bytes (k := 152) HBm.out (show 0 ≤ 48 + (z / 8) % 8 ∧ 48 + (z / 8) % 8 < 256 by omega))
                          have HO9 := Lib.hid (HOm.out.setCell (p := ⟨g, 152, none⟩) (Or.inr HG.out) (.int .u8 (48 + (z / 8) % 8)))
                          clear t8
                          go_wp2_with fail
                          exact ⟨⟨2, m.set 152 (48 + (z / 8) % 8), rfl, by decide, Lib.hid (by rw [List.length_set]; exact HL.out), HQ9, HP9, HO9⟩, by decide⟩
                        · have t7 := and7_i64 (z / 64)
                          have t8 : IntKind.u8.wrap ((z / 64) % 8) = (z / 64) % 8 := by rw [IntKind.wrap_u8]; omega
                          have HP9 := Lib.hid (conv_put HCm.out 151 (48 + (z / 64) % 8) (by rw [HL.out]; decide))
                          have HQ9 := Lib.hid (set_bytes (k := 151) HBm.out (show 0 ≤ 48 + (z / 64) % 8 ∧ 48 + (z / 64) % 8 < 256 by omega))
                          have HO9 := Lib.hid (HOm.out.setCell (p := ⟨g, 151, none⟩) (Or.inr HG.out) (.int .u8 (48 + (z / 64) % 8)))
                          clear t8
                          go_wp2_with fail
                          exact ⟨⟨3, m.set 151 (48 + (z / 64) % 8), rfl, by decide, Lib.hid (by rw [List.length_set]; exact HL.out), HQ9, HP9, HO9⟩, by decide⟩
                        · have t7 := and7_i64 (z / 512)
                          have t8 : IntKind.u8.wrap ((z / 512) % 8) = (z / 512) % 8 := by rw [IntKind.wrap_u8]; omega
                          have HP9 := Lib.hid (conv_put HCm.out 150 (48 + (z / 512) % 8) (by rw [HL.out]; decide))
                          have HQ9 := Lib.hid (set_bytes (k := 150) HBm.out (show 0 ≤ 48 + (z / 512) % 8 ∧ 48 + (z / 512) % 8 < 256 by omega))
                          have HO9 := Lib.hid (HOm.out.setCell (p := ⟨g, 150, none⟩) (Or.inr HG.out) (.int .u8 (48 + (z / 512) % 8)))
                          clear t8
                          go_wp2_with fail
                          exact ⟨⟨4, m.set 150 (48 + (z / 512) % 8), rfl, by decide, Lib.hid (by rw [List.length_set]; exact HL.out), HQ9, HP9, HO9⟩, by decide⟩
                        · have t7 := and7_i64 (z / 4096)
                          have t8 : IntKind.u8.wrap ((z / 4096) % 8) = (z / 4096) % 8 := by rw [IntKind.wrap_u8]; omega
                          have HP9 := Lib.hid (conv_put HCm.out 149 (48 + (z / 4096) % 8) (by rw [HL.out]; decide))
                          have HQ9 := Lib.hid (set_bytes (k := 149) HBm.out (show 0 ≤ 48 + (z / 4096) % 8 ∧ 48 + (z / 4096) % 8 < 256 by omega))
                          have HO9 := Lib.hid (HOm.out.setCell (p := ⟨g, 149, none⟩) (Or.inr HG.out) (.int .u8 (48 + (z / 4096) % 8)))
                          clear t8
                          go_wp2_with fail
                          exact ⟨⟨5, m.set 149 (48 + (z / 4096) % 8), rfl, by decide, Lib.hid (by rw [List.length_set]; exact HL.out), HQ9, HP9, HO9⟩, by decide⟩
                        · have t7 := and7_i64 (z / 32768)
                          have t8 : IntKind.u8.wrap ((z / 32768) % 8) = (z / 32768) % 8 := by rw [IntKind.wrap_u8]; omega
                          have HP9 := Lib.hid (conv_put HCm.out 148 (48 + (z / 32768) % 8) (by rw [HL.out]; decide))
                          have HQ9 := Lib.hid (set_bytes (k := 148) HBm.out (show 0 ≤ 48 + (z / 32768) % 8 ∧ 48 + (z / 32768) % 8 < 256 by omega))
                          have HO9 := Lib.hid (HOm.out.setCell (p := ⟨g, 148, none⟩) (Or.inr HG.out) (.int .u8 (48 + (z / 32768) % 8)))
                          clear t8
                          go_wp2_with fail
                          exact ⟨⟨6, m.set 148 (48 + (z / 32768) % 8), rfl, by decide, Lib.hid (by rw [List.length_set]; exact HL.out), HQ9, HP9, HO9⟩, by decide⟩
                      · have d1 : decide ((i : Int) < 6) = false := decide_eq_false (by omega)
                        have h4 := HCm.out.2.1 154 (by rw [HL.out]; decide)
                        have h5 := HCm.out.2.1 155 (by rw [HL.out]; decide)
                        have f4 := (HCm.out.2.2 154 (by have := HCap.out; omega)).2
                        have f5 := (HCm.out.2.2 155 (by have := HCap.out; omega)).2
                        have HC4 := Lib.hid (conv_put (conv_put HCm.out 154 0 (by rw [HL.out]; decide)) 155 32 (by rw [List.length_set, HL.out]; decide))
                        have HB4 := Lib.hid (set_bytes (k := 155) (set_bytes (k := 154) HBm.out (show 0 ≤ (0 : Int) ∧ (0 : Int) < 256 by decide)) (show 0 ≤ (32 : Int) ∧ (32 : Int) < 256 by decide))
                        have HO4 := Lib.hid ((HOm.out.setCell (p := ⟨g, 154, none⟩) (Or.inr HG.out) (.int .u8 0)).setCell (p := ⟨g, 155, none⟩) (Or.inr HG.out) (.int .u8 32))
                        obtain ⟨y4, hy4⟩ : ∃ y4, m.getD 154 0 = y4 := ⟨_, rfl⟩
                        obtain ⟨y5, hy5⟩ : ∃ y5, m.getD 155 0 = y5 := ⟨_, rfl⟩
                        rw [hy4] at h4
                        rw [hy5] at h5
                        clear hy4 hy5
                        go_wp2_with fail
                        go_meet
                        exact ⟨_, Lib.hid (by rw [List.length_set, List.length_set]; exact HL.out), HB4, HC4, HO4⟩
                case rest =>
                  obtain ⟨m, HL, HBm, HCm, HOm⟩ := hcut
                  clear H3 HM2 HML HM1 HPC
                  clear U M
                  obtain ⟨Mu, HMu⟩ := bytes_str (m := m) HBm.out
                  have HRU := Lib.hid (conv_rd HCm.out HL.out HMu)
                  have HLu := Lib.hid (show Mu.length = 512 by rw [← ints_len, HMu, HL.out])
                  clear HMu HBm HCm HL
                  go_upto_region 17 with (first
                    | (with_reducible refine gate 110 rfl ?_
                       refine conv_law (base := wc.heap.size) (w0 := wc) rfl (.tmp 109) rfl (B t) rfl (ints t) (ints_str t).symm HBt.out (Below.refl _ _) (Nat.le_refl _) ?_
                       intro g8 cap8 w2 hC2 hg2 hB2 hs2))
                  rw [ints_len, HTl.out]
                  have hcap8 : 512 ≤ cap8 := by have := hC2.1; rw [ints_len, HTl.out] at this; exact this
                  have HOv := Lib.hid ((HOm.out.trans' (Only.of_below hB2 (fun _ => False))).alloc (.cells #[.slice A0 nb cb, .slice (some ⟨g, 0, none⟩) 512 cap, .slice (some ⟨g8, 0, none⟩) 512 cap8] 22))
                  have HTb := Lib.hid (alloc_new w2 (.cells #[.slice A0 nb cb, .slice (some ⟨g, 0, none⟩) 512 cap, .slice (some ⟨g8, 0, none⟩) 512 cap8] 22))
                  have HOx := Lib.hid ((Only.of_below hB2 (fun _ => False)).alloc (.cells #[.slice A0 nb cb, .slice (some ⟨g, 0, none⟩) 512 cap, .slice (some ⟨g8, 0, none⟩) 512 cap8] 22))
                  have HR8 := Lib.hid ((conv_rd hC2 (by rw [ints_len, HTl.out]) rfl).only ((Only.refl (fun _ => False) w2).alloc (.cells #[.slice A0 nb cb, .slice (some ⟨g, 0, none⟩) 512 cap, .slice (some ⟨g8, 0, none⟩) 512 cap8] 22)))
                  obtain ⟨V, hV⟩ : ∃ V, w2.alloc (.cells #[.slice A0 nb cb, .slice (some ⟨g, 0, none⟩) 512 cap, .slice (some ⟨g8, 0, none⟩) 512 cap8] 22) = V := ⟨_, rfl⟩
                  obtain ⟨gt, hgt⟩ : ∃ gt, w2.heap.size = gt := ⟨_, rfl⟩
                  rw [hV] at HOv HTb HOx HR8 ⊢
                  rw [hgt] at HTb ⊢
                  have HPick := Lib.hid (show ∀ i, i < 3 → ∃ (A : Option Addr) (n c : Nat) (x : Str), (#[Value.slice A0 nb cb, .slice (some ⟨g, 0, none⟩) 512 cap, .slice (some ⟨g8, 0, none⟩) 512 cap8] : Array Value)[i]? = some (.slice A n c) ∧ x.length = n ∧ n ≤ c ∧ n ≤ 1000 ∧ RdU V A x from fun i hi => by
                    rcases (show i = 0 ∨ i = 1 ∨ i = 2 by omega) with rfl | rfl | rfl
                    · exact ⟨A0, nb, cb, l, rfl, HL0.out, HC0.out, by have := HA0.out; omega, HAr.out.only HOv.out⟩
                    · exact ⟨some ⟨g, 0, none⟩, 512, cap, Mu, rfl, HLu.out, HCap.out, by decide, HRU.out.only HOx.out⟩
                    · exact ⟨some ⟨g8, 0, none⟩, 512, cap8, t, rfl, HTl.out, hcap8, by decide, HR8.out⟩)
                  have HMV := Lib.hid (HMW.out.only HOv.out)
                  have HOV := Lib.hid (HO.out.trans' HOv.out)
                  clear hC2 hg2 hB2 hs2 hcap8 hV hgt HOm HRU HR8 HOx HOv
                  clear w2
                  go_loopw [113] (fun v113 u => ∃ i : Nat, v113 = .int .i64 (i : Int) ∧ i ≤ 3 ∧ Hid (Only (fun _ => False) V u)) (fun i _ => 3 - (intOf i).toNat)
                  case atStart => exact ⟨0, rfl, by decide, Lib.hid (Only.refl _ _)⟩
                  case round =>
                    obtain ⟨i, rfl, hi, HU⟩ := hrel
                    by_cases ci : i < 3
                    · have d1 : decide ((i : Int) < 3) = true := decide_eq_true (by omega)
                      have d2 : (i : Int) < 3 := by omega
                      obtain ⟨A, n, c, x, hx1, hx2, hx3, hx4, hx5⟩ := HPick.out i ci
                      have k1 : wr.cell? ⟨gt, i, none⟩ = some (.slice A n c) := (Joins.cell_of_block (HU.out.keeps HTb.out id) i).trans hx1
                      have HN := Lib.hid hx2
                      have HC := Lib.hid hx3
                      have H4 := Lib.hid hx4
                      have HR := Lib.hid (hx5.only HU.out)
                      have HM := Lib.hid (HMV.out.only HU.out)
                      clear hx1 hx2 hx3 hx4 hx5
                      obtain ⟨r, hr⟩ : ∃ r, readL x = r := ⟨_, rfl⟩
                      obtain ⟨RH, re⟩ := r
                      have HRD := Lib.hid hr
                      clear hr
                      have z1 : (re != re) = false := by simp
                      obtain ⟨zs, hzs⟩ : ∃ zs, sumOf x = zs := ⟨_, rfl⟩
                      obtain ⟨zb, hzb⟩ : ∃ zb, zeroOf x = zb := ⟨_, rfl⟩
                      have z2 : (zs != zs) = false := by simp
                      have z3 : (zb != zb) = false := by simp
                      have K1 := Lib.hid (fun u (h : RdU u A x) => hzs ▸ sum_any (c := c) HN.out h)
                      have K2 := Lib.hid (fun u (h : RdU u A x) => hzs ▸ rsum_any (c := c) HN.out h)
                      have K3 := Lib.hid (fun u (h : RdU u A x) => hzb ▸ zero_any (c := c) HN.out HC.out (by have := H4.out; omega) h)
                      have K4 := Lib.hid (fun u (h : RdU u A x) => hzb ▸ rzero_any (c := c) HN.out (by have := H4.out; omega) h)
                      clear hzs hzb
                      go_wp2_with fail
                      refine (read_all HN.out HC.out (by have := H4.out; omega) HR.out HM.out).mono ?_
                      rintro v w3 ⟨rfl, h3⟩
                      rw [HRD.out]
                      have H3 := Lib.hid h3
                      clear h3
                      go_wp2_with (first
                        | ((with_reducible refine gate_store 24 rfl ?_); refine store_new (H0 := hdr0) rfl RH _ _ rfl rfl rfl ?_; intro w4 hb4 ho4))
                      refine (rread_all HN.out HC.out (by have := H4.out; omega) (HR.out.only (H3.out.trans' ho4))).mono ?_
                      rintro v w5 ⟨rfl, h5⟩
                      rw [HRD.out]
                      have HB4 := Lib.hid (h5.keeps hb4 id)
                      have H5 := Lib.hid ((H3.out.trans' ho4).trans' h5)
                      clear hb4 ho4 h5 H3
                      obtain ⟨g4, hg4⟩ : ∃ g4, w3.heap.size = g4 := ⟨_, rfl⟩
                      rw [hg4] at HB4 ⊢
                      clear hg4
                      go_wp2_with (first
                        | ((with_reducible refine gate_store 24 rfl ?_); refine store_new (H0 := hdr0) rfl RH _ _ rfl rfl rfl ?_; intro w6 hb6 ho6)
                        | (with_reducible refine gate 127 rfl ?_; refine load_hdr rfl _ rfl rfl (ho6.keeps HB4.out id) ?_)
                        | (with_reducible refine gate 128 rfl ?_; refine load_hdr rfl _ rfl rfl hb6 ?_)
                        | (with_reducible refine gate 129 rfl ?_
                           refine op_neq24 rfl _ _ rfl RH RH rfl rfl ?_
                           rw [decide_eq_true (show RH = RH from rfl), Bool.not_true]
                           have H6 := Lib.hid (H5.out.trans' ho6)
                           clear hb6 ho6)
                        | (go_at_call 13; refine (K1.out _ (HR.out.only H6.out)).mono ?_; rintro v w6 ⟨rfl, rfl⟩)
                        | (go_at_call 10; refine (K2.out _ (HR.out.only H6.out)).mono ?_; rintro v w6 ⟨rfl, rfl⟩)
                        | (go_at_call 14; refine (K3.out _ (HR.out.only H6.out)).mono ?_; rintro v w7 ⟨rfl, ho7⟩; have H7 := Lib.hid (H6.out.trans' ho7); clear ho7)
                        | (go_at_call 15; refine (K4.out _ (HR.out.only H7.out)).mono ?_; rintro v w8 ⟨rfl, ho8⟩; have H8 := Lib.hid (H7.out.trans' ho8); clear ho8))
                      exact ⟨⟨i + 1, by simp, by omega, Lib.hid (HU.out.trans' H8.out)⟩, by simp [intOf]; omega⟩
                    · have d1 : decide ((i : Int) < 3) = false := decide_eq_false (by omega)
                      have HF0 := Lib.hid (HOV.out.trans' HU.out)
                      go_wp2_with fail
                      refine (told_any _ (HMV.out.only HU.out)).mono ?_
                      rintro v w4 ⟨rfl, hb4⟩
                      have HF := Lib.hid (HF0.out.trans' hb4)
                      go_wp2_with fail
                      go_ret
                      exact ⟨rfl, HF.out⟩
            · have e5 : decide ((((B H.group).size : Nat) : Int) > 200) = true := decide_eq_true (by omega)
              have e5' : decide (200 < (B H.group).size) = true := decide_eq_true (by omega)
              go_wp2_with fail
              refine (told_any _ HMW.out).mono ?_
              rintro x w4 ⟨rfl, hb4⟩
              have HF := Lib.hid (HO.out.trans' hb4)
              go_wp2_with fail
              go_ret
              exact ⟨rfl, HF.out⟩
          · have e4 : decide ((((B H.user).size : Nat) : Int) > 200) = true := decide_eq_true (by omega)
            have e4' : decide (200 < (B H.user).size) = true := decide_eq_true (by omega)
            go_wp2_with fail
            refine (told_any _ HMW.out).mono ?_
            rintro x w4 ⟨rfl, hb4⟩
            have HF := Lib.hid (HO.out.trans' hb4)
            go_wp2_with fail
            go_ret
            exact ⟨rfl, HF.out⟩
        · have e3 : decide ((((B H.target).size : Nat) : Int) > 200) = true := decide_eq_true (by omega)
          have e3' : decide (200 < (B H.target).size) = true := decide_eq_true (by omega)
          go_wp2_with fail
          refine (told_any _ HMW.out).mono ?_
          rintro x w4 ⟨rfl, hb4⟩
          have HF := Lib.hid (HO.out.trans' hb4)
          go_wp2_with fail
          go_ret
          exact ⟨rfl, HF.out⟩
      · have e2 : decide ((((B H.pre).size : Nat) : Int) > 200) = true := decide_eq_true (by omega)
        have e2' : decide (200 < (B H.pre).size) = true := decide_eq_true (by omega)
        go_wp2_with fail
        refine (told_any _ HMW.out).mono ?_
        rintro x w4 ⟨rfl, hb4⟩
        have HF := Lib.hid (HO.out.trans' hb4)
        go_wp2_with fail
        go_ret
        exact ⟨rfl, HF.out⟩
    · have e1 : decide ((((B H.name).size : Nat) : Int) > 200) = true := decide_eq_true (by omega)
      have e1' : decide (200 < (B H.name).size) = true := decide_eq_true (by omega)
      go_wp2_with fail
      refine (told_any _ HMW.out).mono ?_
      rintro x w4 ⟨rfl, hb4⟩
      have HF := Lib.hid (HO.out.trans' hb4)
      go_wp2_with fail
      go_ret
      exact ⟨rfl, HF.out⟩
  · have e0 : decide (((nb : Nat) : Int) > 600) = true := decide_eq_true (by omega)
    have e0' : decide (600 < nb) = true := decide_eq_true (by omega)
    go_wp2_with fail
    refine (told_any _ HMW.out).mono ?_
    rintro x w4 ⟨rfl, hb4⟩
    have HF := Lib.hid (HO.out.trans' hb4)
    go_wp2_with fail
    go_ret
    exact ⟨rfl, HF.out⟩
theorem lawReads {H : Type} {enc : TypeId × Value → H} {W : World} {base : Nat} {v0 v1 v2 v3 v4 : Value} {d0 d1 d2 d3 d4 : DataW H} {p0 p1 p2 p3 p4 : List MemPlace} {ts : List TypeId} {ds : List (DataW H)} (hm : MaxLen W)
    (ov0 : Value.okWide Tryd.prog W .any base 22 v0) (k0 : DataW.Trod enc Tryd.prog W 0 (fun _ => true) true 22 v0 d0 p0)
    (ov1 : Value.okWide Tryd.prog W .any base 24 v1) (k1 : DataW.Trod enc Tryd.prog W 0 (fun _ => true) true 24 v1 d1 p1)
    (ov2 : Value.okWide Tryd.prog W .any base 3 v2) (k2 : DataW.Trod enc Tryd.prog W 0 (fun _ => true) true 3 v2 d2 p2)
    (ov3 : Value.okWide Tryd.prog W .any base 5 v3) (k3 : DataW.Trod enc Tryd.prog W 0 (fun _ => true) true 5 v3 d3 p3)
    (ov4 : Value.okWide Tryd.prog W .any base 4 v4) (k4 : DataW.Trod enc Tryd.prog W 0 (fun _ => true) true 4 v4 d4 p4)
    (_ : (DataW.weightsEach Tryd.prog ts ds).all (· ≤ reachBytes) = true) :
    Calls Tryd.prog 3 #[v0, v1, v2, v3, v4] W fun e w' => e = .returned (.bool true) ∧ Below W.heap.size W w' := by
  obtain ⟨K, rfl, hin⟩ := open_hdr ov1 k1
  obtain ⟨n1, rfl, _, _, _⟩ := Go.ChangeShapes.open_int Tryd.underlying3 ov2 k2
  obtain ⟨n2, rfl, _, _, w2⟩ := Go.ChangeShapes.open_int Tryd.underlying5 ov3 k3
  obtain ⟨b4, rfl, _, _⟩ := Go.RowKit.open_bool Tryd.underlying4 ov4 k4
  obtain ⟨A, c, C, rfl, l1, m1, hC, wC⟩ := open_nums Tryd.underlying22 Tryd.underlying5 (by kernel_rfl) ov0 k0
  have hu := u8_b w2
  have ht : ((UInt8.ofNat n2.toNat).toNat : Int) = n2 := by
    rw [UInt8.toNat_ofNat']; omega
  obtain ⟨l, hl⟩ := bytes_str (m := C) (fun x hx => u8_b (wC x hx))
  have hlen : l.length = C.length := by rw [← ints_len, hl]
  have hR : RdU W A l := by unfold RdU; rw [hl]; exact hC
  have := reads_any K (nb := C.length) (cb := c) n1 (UInt8.ofNat n2.toNat) b4 W hin hlen l1 hR hm
  rw [ht] at this
  exact this.mono fun x w' h => ⟨h.1, h.2.none⟩
end Go.Proofs.YtggjdfnkmhlliaaDoor.Walks
