/- DetectFormats answers true. -/
import Derived.Test.YtgleehnmnmmdcaaDoorLawBlind
import Derived.Test.YtgleehnmnmmdcaaDoorConvB
import Derived.Test.YtgleehnmnmmdcaaDoorLawNames
namespace Go.Proofs.YtgleehnmnmmdcaaDoor.Walks
open Go Go.RowKit Go.Proofs.YtgleehnmnmmdcaaDoor.Aid Go.Proofs.YtgleehnmnmmdcaaDoor.Own Go.ChangeShapes Go.WideShapes Go.Proofs.YtgleehnmnmmdcaaDoorW.PrintWords

theorem bytes_cat {a b : List Int} (ha : Bytes a) (hb : Bytes b) : Bytes (a ++ b) := fun x hx => (List.mem_append.1 hx).elim (ha x) (hb x)
def namesRow : Array Value := #[.string ⟨#[]⟩, .string ⟨#[122, 105, 112]⟩, .string ⟨#[116, 97, 114]⟩, .string ⟨#[99, 112, 105, 111]⟩, .string ⟨#[103, 122, 105, 112]⟩, .string ⟨#[122, 108, 105, 98]⟩]
theorem names_at (U : World) : ∀ i : Nat, 1 ≤ i → i ≤ 5 → (U.alloc (.cells namesRow 9)).cell? ⟨U.heap.size, i, none⟩ = some (.string (nameOf (i : Int))) := fun i h1 h2 => by
  have h := Joins.cell_of_block (alloc_new U (.cells namesRow 9)) i
  rw [h]
  rcases (show i = 1 ∨ i = 2 ∨ i = 3 ∨ i = 4 ∨ i = 5 by omega) with rfl | rfl | rfl | rfl | rfl <;> rfl
/-- What stands in 'at' ahead of the i-th round. -/
def FAt (S : ByteArray) (i : Nat) (at_ : Int) : Prop := (at_ = 0 ∧ ∀ j : Nat, 1 ≤ j → j < i → S ≠ nameOf (j : Int)) ∨ ∃ j : Nat, 1 ≤ j ∧ j < i ∧ S = nameOf (j : Int) ∧ at_ = (j : Int)
theorem FAt.yes {S : ByteArray} {i : Nat} {at_ : Int} (_ : FAt S i at_) (h1 : 1 ≤ i) (e : nameOf (i : Int) = S) : FAt S (i + 1) (i : Int) := Or.inr ⟨i, h1, by omega, e.symm, rfl⟩
theorem FAt.no {S : ByteArray} {i : Nat} {at_ : Int} (h : FAt S i at_) (e : nameOf (i : Int) ≠ S) : FAt S (i + 1) at_ := by
  rcases h with ⟨h1, h2⟩ | ⟨j, h1, h2, h3, h4⟩
  · refine Or.inl ⟨h1, fun j a b => ?_⟩
    by_cases c : j = i
    · rw [c]; exact fun q => e q.symm
    · exact h2 j a (by omega)
  · exact Or.inr ⟨j, h1, by omega, h3, h4⟩
theorem FAt.end_ {S : ByteArray} {at_ : Int} (h : FAt S 6 at_) : parseOf S = at_ := by
  rcases h with ⟨rfl, h2⟩ | ⟨j, h1, h2, rfl, rfl⟩
  · exact parse_none h2
  · exact parse_name ⟨by omega, by omega⟩
/-- What stands in 'c' behind the switch. -/
def FCut (w : World) (v : Value) (wc : World) : Prop := ∃ A c n, ∃ Z : List Int, v = .slice A n c ∧ Z.length = n ∧ n ≤ c ∧ n ≤ 1000 ∧ Hid (RdK .u8 wc A Z) ∧ Hid (Bytes Z) ∧ Hid (Below w.heap.size w wc)
set_option maxRecDepth 100000 in
set_option maxHeartbeats 4000000 in
theorem formats_any {w : World} {A : Option Addr} {l : List Int} {c : Nat} (how fo : Int) (e : Bool) (S : ByteArray) (hl : l.length ≤ 600) (hS : S.size ≤ 100) (hA : RdK .u8 w A l) (bl : Bytes l) :
    Calls Tryd.prog 3 #[.slice A l.length c, .int .i64 how, .bool e, .int .i64 fo, .string S] w fun x w' => x = .returned (.bool true) ∧ Below w.heap.size w w' := by
  have d1 : decide ((l.length : Int) > 600) = false := decide_eq_false (by omega)
  have d2 : decide ((S.size : Int) > 100) = false := decide_eq_false (by omega)
  have HA := Lib.hid hA
  have BL := Lib.hid bl
  have HL := Lib.hid hl
  have q1 : (l.length : Int) ≤ 600 := by omega
  clear hA bl hl hS
  go_enter Tryd.func3, Tryd.ntmps3
  go_upto_region 5 with (first
    | (with_reducible refine gate 32 rfl ?_
       refine gate_guard (by rfl) ?_; dsimp only
       refine own_empty (base := w.heap.size) (w0 := w) rfl rfl ?hr (Below.refl _ _) (Nat.le_refl _) ?_
       (case hr => first | (go_simp; done) | (go_simp; rfl))
       intro v1 w1 hO1 hB1 hs1)
    | (with_reducible refine gate 34 rfl ?_
       refine gate_guard (by rfl) ?_; dsimp only
       refine own_append (base := w.heap.size) (w0 := w) rfl (.tmp 32) (.tmp 33) rfl v1 [] l A c rfl rfl hO1 (HA.out.below hB1) hB1 hB1.size (by have := HL.out; simp; omega) ?_
       intro v2 w2 hO2 hB2 hs2))
  rw [List.nil_append] at hO2
  obtain ⟨A2, c2, rfl, hc2, hR2⟩ := own_rdc hO2
  obtain ⟨k, hk, ek⟩ := cut_at how 7 (by decide)
  rw [show ((7 : Nat) : Int) + 1 = 8 from rfl] at ek
  rw [ek]
  have HO2 := Lib.hid hO2
  have HC2 := Lib.hid hc2
  have HR2 := Lib.hid hR2
  have HB2 := Lib.hid hB2
  clear hO2 hO1 hB1 hB2 hs1 hs2 hc2 hR2 ek
  go_upto_block 0 with (fail)
  go_cut [11] (fun v11 wc => FCut w v11 wc)
  case first =>
    rcases (show k = 0 ∨ k = 1 ∨ k = 2 ∨ k = 3 ∨ k = 4 ∨ k = 5 ∨ k = 6 ∨ k = 7 by omega) with rfl | rfl | rfl | rfl | rfl | rfl | rfl | rfl
    · go_wp2_with (first
        | (with_reducible refine gate 50 rfl ?_
           refine gate_guard (by rfl) ?_; dsimp only
           refine conv_law (base := w.heap.size) (w0 := w) rfl (.tmp 49) rfl _ rfl [80, 75, 3, 4] rfl (by decide) (HB2.out.alloc HB2.out.size _) (by have := HB2.out.size; rw [alloc_size]; omega) ?_
           intro g cap w3 hC3 hg3 hB3 hs3)
        | (with_reducible refine gate 52 rfl ?_
           refine gate_guard (by rfl) ?_; dsimp only
           refine onto_law (base := w.heap.size) (w0 := w) rfl (.tmp 50) (.tmp 51) rfl rfl rfl rfl hC3 (HA.out.below hB3) (by have := HL.out; simp; omega) hg3 hB3 hs3 ?_
           intro B c' w4 hc4 hR4 hB4))
      go_meet
      case rel => exact ⟨B, c', _, _, rfl, by simp; omega, hc4, by have := HL.out; omega, Lib.hid hR4, Lib.hid (bytes_cat (by unfold Bytes; decide) BL.out), Lib.hid hB4⟩
    · go_wp2_with (first
        | (with_reducible refine gate 50 rfl ?_
           refine gate_guard (by rfl) ?_; dsimp only
           refine conv_law (base := w.heap.size) (w0 := w) rfl (.tmp 49) rfl _ rfl [80, 75, 5, 6] rfl (by decide) (HB2.out.alloc HB2.out.size _) (by have := HB2.out.size; rw [alloc_size]; omega) ?_
           intro g cap w3 hC3 hg3 hB3 hs3)
        | (with_reducible refine gate 52 rfl ?_
           refine gate_guard (by rfl) ?_; dsimp only
           refine onto_law (base := w.heap.size) (w0 := w) rfl (.tmp 50) (.tmp 51) rfl rfl rfl rfl hC3 (HA.out.below hB3) (by have := HL.out; simp; omega) hg3 hB3 hs3 ?_
           intro B c' w4 hc4 hR4 hB4))
      go_meet
      case rel => exact ⟨B, c', _, _, rfl, by simp; omega, hc4, by have := HL.out; omega, Lib.hid hR4, Lib.hid (bytes_cat (by unfold Bytes; decide) BL.out), Lib.hid hB4⟩
    · go_wp2_with (first
        | (with_reducible refine gate 50 rfl ?_
           refine gate_guard (by rfl) ?_; dsimp only
           refine conv_law (base := w.heap.size) (w0 := w) rfl (.tmp 49) rfl _ rfl [31, 139] rfl (by decide) (HB2.out.alloc HB2.out.size _) (by have := HB2.out.size; rw [alloc_size]; omega) ?_
           intro g cap w3 hC3 hg3 hB3 hs3)
        | (with_reducible refine gate 52 rfl ?_
           refine gate_guard (by rfl) ?_; dsimp only
           refine onto_law (base := w.heap.size) (w0 := w) rfl (.tmp 50) (.tmp 51) rfl rfl rfl rfl hC3 (HA.out.below hB3) (by have := HL.out; simp; omega) hg3 hB3 hs3 ?_
           intro B c' w4 hc4 hR4 hB4))
      go_meet
      case rel => exact ⟨B, c', _, _, rfl, by simp; omega, hc4, by have := HL.out; omega, Lib.hid hR4, Lib.hid (bytes_cat (by unfold Bytes; decide) BL.out), Lib.hid hB4⟩
    · go_wp2_with (first
        | (with_reducible refine gate 50 rfl ?_
           refine gate_guard (by rfl) ?_; dsimp only
           refine conv_law (base := w.heap.size) (w0 := w) rfl (.tmp 49) rfl _ rfl [48, 55, 48, 55, 48, 49] rfl (by decide) (HB2.out.alloc HB2.out.size _) (by have := HB2.out.size; rw [alloc_size]; omega) ?_
           intro g cap w3 hC3 hg3 hB3 hs3)
        | (with_reducible refine gate 52 rfl ?_
           refine gate_guard (by rfl) ?_; dsimp only
           refine onto_law (base := w.heap.size) (w0 := w) rfl (.tmp 50) (.tmp 51) rfl rfl rfl rfl hC3 (HA.out.below hB3) (by have := HL.out; simp; omega) hg3 hB3 hs3 ?_
           intro B c' w4 hc4 hR4 hB4))
      go_meet
      case rel => exact ⟨B, c', _, _, rfl, by simp; omega, hc4, by have := HL.out; omega, Lib.hid hR4, Lib.hid (bytes_cat (by unfold Bytes; decide) BL.out), Lib.hid hB4⟩
    · go_wp2_with (first
        | (with_reducible refine gate 50 rfl ?_
           refine gate_guard (by rfl) ?_; dsimp only
           refine conv_law (base := w.heap.size) (w0 := w) rfl (.tmp 49) rfl _ rfl [120, 156] rfl (by decide) (HB2.out.alloc HB2.out.size _) (by have := HB2.out.size; rw [alloc_size]; omega) ?_
           intro g cap w3 hC3 hg3 hB3 hs3)
        | (with_reducible refine gate 52 rfl ?_
           refine gate_guard (by rfl) ?_; dsimp only
           refine onto_law (base := w.heap.size) (w0 := w) rfl (.tmp 50) (.tmp 51) rfl rfl rfl rfl hC3 (HA.out.below hB3) (by have := HL.out; simp; omega) hg3 hB3 hs3 ?_
           intro B c' w4 hc4 hR4 hB4))
      go_meet
      case rel => exact ⟨B, c', _, _, rfl, by simp; omega, hc4, by have := HL.out; omega, Lib.hid hR4, Lib.hid (bytes_cat (by unfold Bytes; decide) BL.out), Lib.hid hB4⟩
    · by_cases h : 263 ≤ l.length
      · have d3 : decide ((l.length : Int) ≥ 263) = true := decide_eq_true (by omega)
        obtain ⟨g, cap, eA, hg⟩ := Own.form HO2.out (by omega)
        injection eA with eA _ eC
        subst eA eC
        have r1 : ¬ c2 = 257 := by have := HC2.out; omega
        have r2 : (257 : Int) ≤ (l.length : Int) := by omega
        have r3 : (257 : Int) ≤ (c2 : Int) := by have := HC2.out; omega
        go_wp2_with (first
          | (with_reducible refine gate 60 rfl ?_
             refine gate_guard (by rfl) ?_; dsimp only
             refine copy_law (base := w.heap.size) (w0 := w) rfl (.tmp 59) (.const (.string ⟨#[117, 115, 116, 97, 114, 0]⟩)) rfl (off := 257) rfl _ rfl (by show 6 ≤ _; omega) rfl HO2.out (by show 257 + 6 ≤ _; omega) HB2.out hg ?_
             intro l2 w3 hl2 hb2 hO3 hB3))
        obtain ⟨A3, c3, e3, _, hR3⟩ := own_rdc hO3
        injection e3 with e3 _ _
        rw [← e3] at hR3
        go_meet
        case rel => exact ⟨_, c2, _, l2, rfl, hl2, HC2.out, by have := HL.out; omega, Lib.hid hR3, Lib.hid (fun x hx => (hb2 x hx).elim (BL.out x) id), Lib.hid hB3⟩
      · have d3 : decide ((l.length : Int) ≥ 263) = false := decide_eq_false (by omega)
        go_wp2_with fail
        go_meet
        case rel => exact ⟨A2, c2, _, l, rfl, rfl, HC2.out, by have := HL.out; omega, HR2, BL, HB2⟩
    · go_wp2_with (first
        | (with_reducible refine gate 65 rfl ?_
           refine gate_guard (by rfl) ?_; dsimp only
           refine own_make (base := w.heap.size) (w0 := w) rfl rfl (.tmp 64) rfl l.length rfl HB2.out HB2.out.size (by have := HL.out; omega) ?_
           intro v3 w3 hO3 hB3))
      obtain ⟨A3, c3, rfl, hc3, hR3⟩ := own_rdc hO3
      rw [List.length_replicate] at hc3 ⊢
      go_meet
      case rel => exact ⟨A3, c3, _, _, rfl, by simp, hc3, by have := HL.out; omega, Lib.hid hR3, Lib.hid (fun x hx => by rw [List.eq_of_mem_replicate hx]; decide), Lib.hid hB3⟩
    · go_wp2_with fail
      go_meet
      case rel => exact ⟨A2, c2, _, l, rfl, rfl, HC2.out, by have := HL.out; omega, HR2, BL, HB2⟩
  case rest =>
    obtain ⟨B, c', n, Z, rfl, hZ, hc', hn, HR, HBy, HBl⟩ := hcut
    have HZ := Lib.hid hZ
    have HC' := Lib.hid hc'
    have HN := Lib.hid hn
    clear hZ hc' hn HO2 HC2 HR2 HB2 HA BL
    obtain ⟨f, hf⟩ : ∃ f, fmtOf Z e = f := ⟨_, rfl⟩
    have HF := Lib.hid hf
    clear hf
    obtain ⟨a, er⟩ := f
    go_wp2_with fail
    refine (format_n (l := Z) (c := c') e HZ.out HC'.out (by have := HN.out; have := HZ.out; omega) HR.out HBy.out).mono ?_
    rintro x u1 ⟨rfl, h1⟩
    rw [HF.out]
    have H1 := Lib.hid h1
    clear h1
    go_wp2_with fail
    refine (rformat_any (l := Z) (c := c') e HZ.out HC'.out (rd_only HR.out H1.out) HBy.out).mono ?_
    rintro x u2 ⟨rfl, m, rfl⟩
    rw [HF.out]
    have H2 := Lib.hid (H1.out.drewN m)
    have HB2 := Lib.hid (HBl.out.trans (H2.out.none.mono HBl.out.size))
    clear H1 H2 HR HBy HBl
    obtain ⟨U, hU⟩ : ∃ U, u1.drewN m = U := ⟨_, rfl⟩
    rw [hU] at HB2 ⊢
    clear hU
    by_cases hf1 : 1 ≤ fo
    · have d4 : decide (fo ≥ 1) = true := decide_eq_true hf1
      obtain ⟨b5, d5⟩ : ∃ b5, decide (fo ≤ 5) = b5 := ⟨_, rfl⟩
      go_upto_if 84 with (fail)
      change Code.wp Tryd.prog _ _ _ (U.alloc (.cells namesRow 9))
      have HB3 := Lib.hid (HB2.out.alloc HB2.out.size (.cells namesRow 9))
      have HT := Lib.hid (names_at U)
      obtain ⟨T, hT⟩ : ∃ T, U.alloc (.cells namesRow 9) = T := ⟨_, rfl⟩
      obtain ⟨g0, hg0⟩ : ∃ g0, U.heap.size = g0 := ⟨_, rfl⟩
      rw [hT] at HB3 HT ⊢
      rw [hg0] at HT ⊢
      clear hT hg0 HB2
      go_cut [18] from 85 to 88 (fun v18 wx => v18 = .string (nameOf fo) ∧ wx = T)
      case first =>
        cases b5 with
        | true =>
          have hf := of_decide_eq_true d5
          obtain ⟨i, rfl⟩ : ∃ i : Nat, fo = (i : Int) := ⟨fo.toNat, by omega⟩
          have c0 := HT.out i (by omega) (by omega)
          have d6 : (i : Int) < 6 := by omega
          obtain ⟨N, hN⟩ : ∃ N, nameOf (i : Int) = N := ⟨_, rfl⟩
          rw [hN] at c0
          have HNn := Lib.hid hN
          clear hf hN
          go_wp2_with fail
          go_meet
          case rel => exact ⟨by rw [HNn.out], rfl⟩
        | false =>
          have HNn := Lib.hid (name_out (a := fo) (fun h => of_decide_eq_false d5 h.2))
          go_wp2_with fail
          go_meet
          case rel => exact ⟨by rw [HNn.out], rfl⟩
      case rest =>
        obtain ⟨rfl, hwx⟩ := hcut
        rw [hwx]
        obtain ⟨N, hN⟩ : ∃ N, nameOf fo = N := ⟨_, rfl⟩
        rw [hN]
        have HNn := Lib.hid hN
        clear hN
        go_wp2_with fail
        go_loopw [19, 20] (fun v19 v20 u => ∃ (i : Nat) (at_ : Int), v19 = .int .i64 at_ ∧ v20 = .int .i64 (i : Int) ∧ 1 ≤ i ∧ i ≤ 6 ∧ Hid (FAt S i at_) ∧ u = T) (fun _ i _ => 6 - (intOf i).toNat)
        case atStart => exact ⟨1, 0, rfl, rfl, by decide, by decide, Lib.hid (Or.inl ⟨rfl, fun j h1 h2 => absurd h1 (by omega)⟩), rfl⟩
        case round =>
          obtain ⟨i, at_, rfl, rfl, hi1, hi6, HFt, rfl⟩ := hrel
          by_cases c1 : i ≤ 5
          · have e1 : decide ((i : Int) ≤ 5) = true := decide_eq_true (by omega)
            have e2 : decide (i ≤ 5) = true := decide_eq_true c1
            have e3 : (i : Int) < 6 := by omega
            have c0 := HT.out i hi1 c1
            obtain ⟨M, hM⟩ : ∃ M, nameOf (i : Int) = M := ⟨_, rfl⟩
            rw [hM] at c0
            by_cases em : M = S
            · have e4 : (M.toList == S.toList) = true := (str_eq _ _).trans (decide_eq_true em)
              have HF2 := Lib.hid (HFt.out.yes hi1 (hM.trans em))
              clear em hM
              go_wp2_with fail
              exact ⟨⟨i + 1, (i : Int), rfl, by simp, by omega, by omega, HF2, by trivial⟩, by simp [intOf]; omega⟩
            · have e4 : (M.toList == S.toList) = false := (str_eq _ _).trans (decide_eq_false em)
              have HF2 := Lib.hid (HFt.out.no (fun q => em (hM.symm.trans q)))
              clear em hM
              go_wp2_with fail
              exact ⟨⟨i + 1, at_, rfl, by simp, by omega, by omega, HF2, by trivial⟩, by simp [intOf]; omega⟩
          · have e1 : decide ((i : Int) ≤ 5) = false := decide_eq_false (by omega)
            have e2 : decide (i ≤ 5) = false := decide_eq_false c1
            obtain rfl : i = 6 := by omega
            have HE := Lib.hid (HFt.out.end_)
            have HG := Lib.hid (show decide (at_ ≠ 0) = decide (at_ > 0) from decide_eq_decide.mpr (by
              rcases HFt.out with ⟨h, _⟩ | ⟨j, h1, _, _, h4⟩ <;> omega))
            go_wp2_with fail
            refine (parse_any _ _).mono ?_
            rintro x u5 ⟨rfl, rfl⟩
            rw [HE.out, HG.out]
            go_wp2_with fail
            refine (told_any _).mono ?_
            rintro x u6 ⟨rfl, h6⟩
            have H6 := Lib.hid (HB3.out.trans (h6.none.mono HB3.out.size))
            clear h6
            go_wp2_with fail
            refine (name_any _ _).mono ?_
            rintro x u7 ⟨rfl, rfl⟩
            rw [HNn.out]
            go_wp2_with fail
            go_ret
            exact ⟨rfl, H6.out⟩
    · have d4 : decide (fo ≥ 1) = false := decide_eq_false hf1
      go_upto_if 84 with (fail)
      change Code.wp Tryd.prog _ _ _ (U.alloc (.cells namesRow 9))
      have HB3 := Lib.hid (HB2.out.alloc HB2.out.size (.cells namesRow 9))
      have HT := Lib.hid (names_at U)
      obtain ⟨T, hT⟩ : ∃ T, U.alloc (.cells namesRow 9) = T := ⟨_, rfl⟩
      obtain ⟨g0, hg0⟩ : ∃ g0, U.heap.size = g0 := ⟨_, rfl⟩
      rw [hT] at HB3 HT ⊢
      rw [hg0] at HT ⊢
      clear hT hg0 HB2
      · have hN0 := name_out (a := fo) (fun h => by omega)
        obtain ⟨N, hN⟩ : ∃ N, nameOf fo = N := ⟨_, rfl⟩
        have hN2 := hN0.symm.trans hN
        rw [hN2]
        clear hN2 hN0
        have HNn := Lib.hid hN
        clear hN
        go_wp2_with fail
        go_loopw [19, 20] (fun v19 v20 u => ∃ (i : Nat) (at_ : Int), v19 = .int .i64 at_ ∧ v20 = .int .i64 (i : Int) ∧ 1 ≤ i ∧ i ≤ 6 ∧ Hid (FAt S i at_) ∧ u = T) (fun _ i _ => 6 - (intOf i).toNat)
        case atStart => exact ⟨1, 0, rfl, rfl, by decide, by decide, Lib.hid (Or.inl ⟨rfl, fun j h1 h2 => absurd h1 (by omega)⟩), rfl⟩
        case round =>
          obtain ⟨i, at_, rfl, rfl, hi1, hi6, HFt, rfl⟩ := hrel
          by_cases c1 : i ≤ 5
          · have e1 : decide ((i : Int) ≤ 5) = true := decide_eq_true (by omega)
            have e2 : decide (i ≤ 5) = true := decide_eq_true c1
            have e3 : (i : Int) < 6 := by omega
            have c0 := HT.out i hi1 c1
            obtain ⟨M, hM⟩ : ∃ M, nameOf (i : Int) = M := ⟨_, rfl⟩
            rw [hM] at c0
            by_cases em : M = S
            · have e4 : (M.toList == S.toList) = true := (str_eq _ _).trans (decide_eq_true em)
              have HF2 := Lib.hid (HFt.out.yes hi1 (hM.trans em))
              clear em hM
              go_wp2_with fail
              exact ⟨⟨i + 1, (i : Int), rfl, by simp, by omega, by omega, HF2, by trivial⟩, by simp [intOf]; omega⟩
            · have e4 : (M.toList == S.toList) = false := (str_eq _ _).trans (decide_eq_false em)
              have HF2 := Lib.hid (HFt.out.no (fun q => em (hM.symm.trans q)))
              clear em hM
              go_wp2_with fail
              exact ⟨⟨i + 1, at_, rfl, by simp, by omega, by omega, HF2, by trivial⟩, by simp [intOf]; omega⟩
          · have e1 : decide ((i : Int) ≤ 5) = false := decide_eq_false (by omega)
            have e2 : decide (i ≤ 5) = false := decide_eq_false c1
            obtain rfl : i = 6 := by omega
            have HE := Lib.hid (HFt.out.end_)
            have HG := Lib.hid (show decide (at_ ≠ 0) = decide (at_ > 0) from decide_eq_decide.mpr (by
              rcases HFt.out with ⟨h, _⟩ | ⟨j, h1, _, _, h4⟩ <;> omega))
            go_wp2_with fail
            refine (parse_any _ _).mono ?_
            rintro x u5 ⟨rfl, rfl⟩
            rw [HE.out, HG.out]
            go_wp2_with fail
            refine (told_any _).mono ?_
            rintro x u6 ⟨rfl, h6⟩
            have H6 := Lib.hid (HB3.out.trans (h6.none.mono HB3.out.size))
            clear h6
            go_wp2_with fail
            refine (name_any _ _).mono ?_
            rintro x u7 ⟨rfl, rfl⟩
            rw [HNn.out]
            go_wp2_with fail
            go_ret
            exact ⟨rfl, H6.out⟩
theorem lawFormats {H : Type} {enc : TypeId × Value → H} {W : World} {base : Nat} {v0 v1 v2 v3 v4 : Value} {d0 d1 d2 d3 d4 : DataW H} {p0 p1 p2 p3 p4 : List MemPlace} {ts : List TypeId} {ds : List (DataW H)}
    (ov0 : Value.okWide Tryd.prog W .any base 22 v0) (k0 : DataW.Trod enc Tryd.prog W 0 (fun _ => true) true 22 v0 d0 p0)
    (ov1 : Value.okWide Tryd.prog W .any base 3 v1) (k1 : DataW.Trod enc Tryd.prog W 0 (fun _ => true) true 3 v1 d1 p1)
    (ov2 : Value.okWide Tryd.prog W .any base 4 v2) (k2 : DataW.Trod enc Tryd.prog W 0 (fun _ => true) true 4 v2 d2 p2)
    (ov3 : Value.okWide Tryd.prog W .any base 3 v3) (k3 : DataW.Trod enc Tryd.prog W 0 (fun _ => true) true 3 v3 d3 p3)
    (ov4 : Value.okWide Tryd.prog W .any base 9 v4) (k4 : DataW.Trod enc Tryd.prog W 0 (fun _ => true) true 9 v4 d4 p4)
    (_ : (DataW.weightsEach Tryd.prog ts ds).all (· ≤ reachBytes) = true) :
    Calls Tryd.prog 3 #[v0, v1, v2, v3, v4] W fun e w' => e = .returned (.bool true) ∧ Below W.heap.size W w' := by
  obtain ⟨A, c, C, rfl, l1, m1, hC, wC⟩ := open_nums Tryd.underlying22 Tryd.underlying5 (by kernel_rfl) ov0 k0
  obtain ⟨how, rfl, _, _, _⟩ := open_int Tryd.underlying3 ov1 k1
  obtain ⟨e, rfl, _, _⟩ := open_bool Tryd.underlying4 ov2 k2
  obtain ⟨fo, rfl, _, _, _⟩ := open_int Tryd.underlying3 ov3 k3
  obtain ⟨S, rfl, _, _, wS⟩ := Go.ChangeMaps.open_string Tryd.underlying9 ov4 k4
  by_cases hs : C.length ≤ 600
  · by_cases hs2 : S.size ≤ 100
    · exact formats_any how fo e S hs hs2 hC (bytes_of wC)
    · have h1 : decide ((C.length : Int) > 600) = false := decide_eq_false (by omega)
      have h2 : decide ((S.size : Int) > 100) = true := decide_eq_true (by omega)
      have h2' : decide (S.size > 100) = true := decide_eq_true (by omega)
      clear k0 k1 k2 k3 k4 ov0 ov1 ov2 ov3 ov4 hC wC
      go_enter Tryd.func3, Tryd.ntmps3
      go_wp2_with fail
      refine (told_any _).mono ?_
      rintro x w4 ⟨rfl, hb4⟩
      go_wp2_with fail
      go_ret
      exact ⟨rfl, hb4.none⟩
  · have h1 : decide ((C.length : Int) > 600) = true := decide_eq_true (by omega)
    clear k0 k1 k2 k3 k4 ov0 ov1 ov2 ov3 ov4 hC wC
    go_enter Tryd.func3, Tryd.ntmps3
    go_wp2_with fail
    refine (told_any _).mono ?_
    rintro x w4 ⟨rfl, hb4⟩
    go_wp2_with fail
    go_ret
    exact ⟨rfl, hb4.none⟩
end Go.Proofs.YtgleehnmnmmdcaaDoor.Walks
