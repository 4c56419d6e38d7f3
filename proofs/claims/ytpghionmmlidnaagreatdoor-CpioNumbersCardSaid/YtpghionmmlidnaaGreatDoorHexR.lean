/- Contract of num.PutHex. Contract of cpio.fill. Contracts of cpio's fail and must, and of the parser's take and align. Contracts of bytes.IndexByte and of bytes.Trim with the byte 0, at a slice that reads as a text. Contract of num.Hex. Contracts of the budget's functions (after the layer budget's texts): what each returns and what becomes of memory. -/
import Derived.Test.YtpghionmmlidnaaGreatDoorBts
import Derived.Test.YtpghionmmlidnaaGreatDoorAidW
import Derived.Test.YtpghionmmlidnaaGreatDoorOwnU
import Derived.StillTailTactics
import Derived.WalkLawsBesides
import Derived.Test.YtpghionmmlidnaaGreatDoorShelf
import Derived.Test.YtpghionmmlidnaaGreatDoorLst
import Derived.Test.YtpghionmmlidnaaGreatDoorLater
import Derived.Test.YtpghionmmlidnaaGreatDoorProg
import Derived.WalkKit
import Derived.KernelRfl
import Derived.WalkSpells
import Derived.Deep.QuietTactic
import Derived.BigQuiet
import Derived.BigRegion
import Derived.Deep.Draws
import Derived.Lib.Hide
import Derived.Outline
import Derived.Test.YtpghionmmlidnaaGreatDoorOnly
namespace Go.Proofs.YtpghionmmlidnaaGreatDoor.Walks
open Go Go.RowKit Go.Proofs.YtpghionmmlidnaaGreatDoor.Aid Go.Proofs.YtpghionmmlidnaaGreatDoor.Pth Go.Proofs.YtpghionmmlidnaaGreatDoor.Own Go.Proofs.YtpghionmmlidnaaGreatDoorW.PrintWords

def hexS : ByteArray := ⟨#[48, 49, 50, 51, 52, 53, 54, 55, 56, 57, 97, 98, 99, 100, 101, 102]⟩
def hexD (d : Nat) : UInt8 := hexS.data.toList.getD d 0
/-- The j highest of x's eight digits. -/
def hexT (j x : Nat) : Str := (List.range j).map (fun k => hexD (x / 16 ^ (7 - k) % 16))
theorem hexT_succ (j x : Nat) : hexT (j + 1) x = hexT j x ++ [hexD (x / 16 ^ (7 - j) % 16)] := by unfold hexT; rw [List.range_succ, List.map_append]; rfl
theorem hexT_len (j x : Nat) : (hexT j x).length = j := by simp [hexT]
theorem intsA (a b : Str) : ints (a ++ b) = ints a ++ ints b := List.map_append
theorem own_strH {base : Nat} {u : World} {v : Value} {l : Str} (h : Own base u v (ints l)) : ∃ A c, v = .slice A l.length c ∧ RdU u A l := by
  obtain ⟨A, c, e, hR⟩ := h.rd
  exact ⟨A, c, by rw [e, ints_len], hR⟩
theorem rd_oneH (w : World) (x : UInt8) : RdK .u8 (w.alloc (.cells #[.int .u8 (x.toNat : Int)] 5)) (some ⟨w.heap.size, 0, none⟩) (ints [x]) := fun _ => ⟨_, rfl, fun j hj => by
  obtain rfl : j = 0 := by simpa [ints] using hj
  exact Joins.cell_of_block (alloc_new w _) 0⟩
theorem and15 (x : Int) : Go.bits .and .i64 x 15 = x % 16 := mask_any stays_i64 (i := 4) (by decide) x
set_option maxRecDepth 100000 in
set_option maxHeartbeats 4000000 in
theorem putHex_any (x : Nat) (hx : x ≤ 4294967295) (w : World) : Calls Tryz.prog 58 #[.int .i64 (x : Int)] w (fun e w' => e = .returned (.tuple #[.string (B (hexT 8 x)), .int .i64 0]) ∧ Only (fun _ => False) w w') := by
  have d1 : decide ((x : Int) < 0) = false := decide_eq_false (by omega)
  have d2 : decide ((x : Int) > 4294967295) = false := decide_eq_false (by omega)
  have HIx := Lib.hid (fun (i : Nat) (hi : i < 16) => index_at (S := hexS) (i := i) hi)
  go_enter Tryz.func58, Tryz.ntmps58
  go_wp2_with fail
  go_loopw [4, 5] (fun v4 v5 u => ∃ k : Nat, v5 = .int .i64 (28 - 4 * (k : Int)) ∧ k ≤ 8 ∧ Hid (Own w.heap.size u v4 (ints (hexT k x))) ∧ Hid (Below w.heap.size w u)) (fun _ i _ => (intOf i + 4).toNat)
  case atStart => exact ⟨0, rfl, by omega, Lib.hid (Kd.R_nil _ _ _ _ _), Lib.hid (Below.refl _ _)⟩
  case round =>
    obtain ⟨k, rfl, hk, HO, HB⟩ := hrel
    by_cases ck : k < 8
    · have d3 : decide (28 - 4 * (k : Int) ≥ 0) = true := decide_eq_true (by omega)
      obtain ⟨D, hD⟩ : ∃ D, x / 16 ^ (7 - k) % 16 = D := ⟨_, rfl⟩
      have hD16 : D < 16 := by rw [← hD]; exact Nat.mod_lt _ (by decide)
      have hq : Go.bits .and .i64 ((x : Int) / 2 ^ (28 - 4 * (k : Int)).toNat) 15 = (D : Int) := by
        have e1 : (28 - 4 * (k : Int)).toNat = 4 * (7 - k) := by omega
        rw [and15, e1, Int.pow_mul, ← hD]
        simp
      have hix : ∀ h : D < (⟨#[48, 49, 50, 51, 52, 53, 54, 55, 56, 57, 97, 98, 99, 100, 101, 102]⟩ : ByteArray).size, (((⟨#[48, 49, 50, 51, 52, 53, 54, 55, 56, 57, 97, 98, 99, 100, 101, 102]⟩ : ByteArray)[D]'h).toNat : Int) = ((hexD D).toNat : Int) := index_at (S := hexS) hD16
      have HTs := Lib.hid (show hexT (k + 1) x = hexT k x ++ [hexD D] by rw [hexT_succ, hD])
      obtain ⟨s, hs⟩ : ∃ s : Int, 28 - 4 * (k : Int) = s := ⟨_, rfl⟩
      have HSs := Lib.hid hs
      have s0 : 0 ≤ s := by omega
      have s1 : s ≤ 28 := by omega
      rw [hs] at d3 hq ⊢
      have z1 : (D : Int) < 16 := by omega
      have z2 : (0 : Int) ≤ (D : Int) := by omega
      clear hD hs
      go_wp2_with (with_reducible refine gate 24 rfl ?_
                   refine own_append (base := w.heap.size) (w0 := w) rfl (.tmp 16) (.tmp 23) rfl u4 (ints (hexT k x)) (ints [hexD D]) (some ⟨wr.heap.size, 0, none⟩) 1 rfl rfl (Own.only HO.out ((Only.refl _ wr).alloc _)) (rd_oneH wr _) (HB.out.alloc HB.out.size _) (by have := HB.out.size; rw [alloc_size]; omega) (by rw [ints_len, ints_len, hexT_len]; show k + 1 ≤ _; omega) ?_
                   intro v7 w7 hO7 hB7 _
                   have HO7 := Lib.hid hO7
                   have HB7 := Lib.hid hB7
                   clear hO7 hB7)
      refine ⟨⟨k + 1, ?_, by omega, Lib.hid (by rw [HTs.out, intsA]; exact HO7.out), HB7⟩, ?_⟩
      · rw [← HSs.out]; exact congrArg (Value.int .i64) (by omega)
      · simp [intOf]; omega
    · obtain rfl : k = 8 := by omega
      have d3 : decide (28 - 4 * ((8 : Nat) : Int) ≥ 0) = false := by decide
      obtain ⟨A, c, rfl, hr⟩ := own_strH HO.out
      have hcv := str_u c hr rfl
      rw [hexT_len] at hcv ⊢
      rw [show (28 - 4 * ((8 : Nat) : Int)) = -4 from rfl]
      go_wp2_with fail
      go_ret2
      exact ⟨rfl, Only.of_below HB.out (fun _ => False)⟩
end Go.Proofs.YtpghionmmlidnaaGreatDoor.Walks
namespace Go.Proofs.YtpghionmmlidnaaGreatDoor.Walks
open Go Go.RowKit Go.Proofs.YtpghionmmlidnaaGreatDoor.Aid Go.Proofs.YtpghionmmlidnaaGreatDoor.Pth Go.Proofs.YtpghionmmlidnaaGreatDoor.OwnU Go.Proofs.YtpghionmmlidnaaGreatDoorW.PrintWords

/-- How many noughts fill up. -/
def padN (n : Nat) : Nat := (4 - n % 4) % 4
def fillL (l : List Int) : List Int := l ++ List.replicate (padN l.length) 0
theorem rd_zeroF (w : World) : RdK .u8 (w.alloc (.cells #[.int .u8 0] 5)) (some ⟨w.heap.size, 0, none⟩) [0] := fun _ => ⟨_, rfl, fun j hj => by
  obtain rfl : j = 0 := by simpa using hj
  exact Joins.cell_of_block (alloc_new w _) 0⟩
def FillPost (base : Nat) (v0 : Value) (l : List Int) (w : World) (x : Ending) (w' : World) : Prop := ∃ v, x = .returned v ∧ OwnU base w' v (fillL l) ∧ Grows v0 w v w'
set_option maxRecDepth 100000 in
set_option maxHeartbeats 4000000 in
theorem fill_any {base : Nat} {w : World} {v : Value} {l : List Int} (hO : OwnU base w v l) (hb : base ≤ w.heap.size) (hl : l.length ≤ 900000) : Calls Tryz.prog 59 #[v] w (FillPost base v l w) := by
  have HO := Lib.hid hO
  have HBs := Lib.hid hb
  clear hO hb
  go_enter Tryz.func59, Tryz.ntmps59
  go_wp2_with fail
  go_loopw [0] (fun v0 u => ∃ k : Nat, k ≤ padN l.length ∧ Hid (OwnU base u v0 (l ++ List.replicate k 0)) ∧ Hid (Grows v w v0 u)) (fun v _ => match v with | .slice _ n _ => 900004 - n | _ => 0)
  case atStart => exact ⟨0, Nat.zero_le _, Lib.hid (by rw [List.replicate_zero, List.append_nil]; exact HO.out), Lib.hid (Grows.refl _ _)⟩
  case round =>
    clear HO
    obtain ⟨k, hk, HO, HB⟩ := hrel
    have HS := Lib.hid (Nat.le_trans HBs.out HB.out.only.size)
    obtain ⟨A, c, rfl, _, hr⟩ := ownU_rd HO.out
    have hlen : (l ++ List.replicate k 0).length = l.length + k := by rw [List.length_append, List.length_replicate]
    obtain ⟨n, hn⟩ : ∃ n, l.length + k = n := ⟨_, rfl⟩
    have HHn := Lib.hid (hlen.trans hn)
    rw [hlen, hn] at HO HB ⊢
    have b1 : n ≤ 900004 := by unfold padN at hk; omega
    clear hr hlen
    by_cases cm : n % 4 = 0
    · have hk2 : k = padN l.length := by unfold padN at hk ⊢; omega
      have HPost := Lib.hid (show FillPost base v l w (.returned (.slice A n c)) wr from ⟨_, rfl, by unfold fillL; rw [← hk2]; exact HO.out, HB.out⟩)
      have g1 : ((n : Int) % 4 != 0) = false := by rw [bne_eq_false_iff_eq]; omega
      clear cm hk2 hn
      go_wp2_with fail
      go_ret
      exact HPost.out
    · have hk2 : k + 1 ≤ padN l.length := by unfold padN at hk ⊢; omega
      have g1 : ((n : Int) % 4 != 0) = true := by rw [bne_iff_ne]; omega
      clear cm hn
      go_wp2_with (with_reducible refine gate 9 rfl ?_
                   refine appU (base := base) rfl (.tmp 7) (.tmp 8) rfl (.slice A n c) (some ⟨wr.heap.size, 0, none⟩) 1 1 (l ++ List.replicate k 0) [0] rfl rfl rfl (fun h => by cases h) (ownU_only HO.out ((Only.refl (fun _ => False) wr).alloc _) (fun _ _ => id)) (rd_zeroF wr) (by have := HS.out; rw [alloc_size]; omega) (by rw [HHn.out]; show n + 1 ≤ _; omega) ?_
                   intro v7 w7 hO7 ho7 hat7
                   obtain ⟨A7, c7, e7, _⟩ := ownU_rd hO7
                   have HE7 := Lib.hid e7
                   have HO7 := Lib.hid hO7
                   have HB7 := Lib.hid ((HB.out.quiet ((Only.refl (fun _ => False) wr).alloc _)).trans (Grows.of ho7 hat7))
                   clear hO7 ho7 e7 hat7)
      refine ⟨⟨k + 1, hk2, Lib.hid ?_, HB7⟩, ?_⟩
      · rw [List.replicate_succ', ← List.append_assoc]; exact HO7.out
      · have e7 := HE7.out
        rw [List.length_append, HHn.out] at e7
        rw [e7]
        show 900004 - (n + 1) < 900004 - n
        unfold padN at hk2
        have := HHn.out
        rw [List.length_append, List.length_replicate] at this
        omega
end Go.Proofs.YtpghionmmlidnaaGreatDoor.Walks
namespace Go.Proofs.YtpghionmmlidnaaGreatDoor.Walks
open Go Go.RowKit Go.Proofs.YtpghionmmlidnaaGreatDoor.Aid Go.Proofs.YtpghionmmlidnaaGreatDoor.Pth Go.Proofs.YtpghionmmlidnaaGreatDoorW.PrintWords

/-- What is thrown. -/
def faultC (c : Int) : List PanicEntry := [{ v := .iface 63 (.agg #[.int .i64 c, .int .i64 0]), recovered := false }]
theorem fail_any (c : Int) (w : World) : Calls Tryz.prog 73 #[.int .i64 c] w fun e w' => e = .panicked (faultC c) ∧ w' = w := by
  go_enter Tryz.func73, Tryz.ntmps73
  go_wp2_with fail
  exact ⟨rfl, rfl, rfl⟩
theorem must_yes (w : World) : Calls Tryz.prog 64 #[.bool true] w fun e w' => e = .returned (.tuple #[]) ∧ w' = w := by
  go_enter Tryz.func64, Tryz.ntmps64
  go_wp2_with fail
  go_end0
  exact ⟨rfl, rfl⟩
theorem must_no (w : World) : Calls Tryz.prog 64 #[.bool false] w fun e w' => e = .panicked (faultC 2) ∧ w' = w := by
  go_enter Tryz.func64, Tryz.ntmps64
  go_wp2_with (go_at_call 73; refine (fail_any 2 _).mono ?_; rintro e w1 ⟨rfl, rfl⟩)
  exact ⟨rfl, rfl, rfl⟩
theorem must_t {c : Bool} (h : c = true) (w : World) : Calls Tryz.prog 64 #[.bool c] w fun e w' => e = .returned (.tuple #[]) ∧ w = w' := by subst h; exact (must_yes w).mono fun _ _ ⟨h1, h2⟩ => ⟨h1, h2.symm⟩
theorem must_f {c : Bool} (h : c = false) (w : World) : Calls Tryz.prog 64 #[.bool c] w fun e w' => e = .panicked (faultC 2) ∧ w = w' := by subst h; exact (must_no w).mono fun _ _ ⟨h1, h2⟩ => ⟨h1, h2.symm⟩
/-- The parser's cells: the bytes, the place, the budget's block, the entries, the kinds' and the groups' blocks. -/
def prow (A : Option Addr) (n c at_ gb : Nat) (out : Value) (gk gg : Nat) : Array Value := #[.slice A n c, .int .i64 (at_ : Int), .pointer (some ⟨gb, 0, none⟩), out, .map (some gk), .map (some gg)]
set_option maxRecDepth 100000 in
set_option maxHeartbeats 4000000 in
theorem take_no {w : World} {g : Nat} {A : Option Addr} {n c at_ gb gk gg : Nat} {out : Value} (hb : w.heap[g]? = some (.cells (prow A n c at_ gb out gk gg) 71 (0, 0))) (k : Int) (hn : n ≤ 1000000) (hat : at_ ≤ n) (h : (n : Int) - at_ < k) :
    Calls Tryz.prog 65 #[.pointer (some ⟨g, 0, none⟩), .int .i64 k] w fun e w' => e = .panicked (faultC 2) ∧ Only (fun _ => False) w w' := by
  have k0 : w.cell? ⟨g, 0, none⟩ = some (.slice A n c) := Joins.cell_of_block hb 0
  have k1 : w.cell? ⟨g, 1, none⟩ = some (.int .i64 (at_ : Int)) := Joins.cell_of_block hb 1
  have b1 : (n : Int) ≤ 1000000 := by omega
  have b2 : (at_ : Int) ≤ 1000000 := by omega
  have d1 : decide (k ≤ (n : Int) - (at_ : Int)) = false := decide_eq_false (by omega)
  clear hb hat h hn
  go_enter Tryz.func65, Tryz.ntmps65
  go_upto_region 1 with (fail)
  go_still_tail 12, (by kernel_rfl)
  change wpList _ _ _ _ _ w.drew
  go_wp2_with (go_at_call 64; rw [d1]; refine (must_no _).mono ?_; rintro e w1 ⟨rfl, rfl⟩)
  exact ⟨rfl, rfl, (Only.refl _ w).drew⟩
theorem prow_at (A : Option Addr) (n c at_ gb : Nat) (out : Value) (gk gg k : Nat) : (prow A n c at_ gb out gk gg).setIfInBounds 1 (.int .i64 ((at_ : Int) + (k : Int))) = prow A n c (at_ + k) gb out gk gg := by
  rw [← Int.natCast_add]; rfl
def TakePost (g : Nat) (ad : Addr) (n c at_ k gb : Nat) (out : Value) (gk gg : Nat) (w : World) (e : Ending) (w' : World) : Prop :=
  ∃ A', e = .returned (.slice A' k (c - at_)) ∧ (0 < k → A' = some (ad.add at_)) ∧ w'.heap[g]? = some (.cells (prow (some ad) n c (at_ + k) gb out gk gg) 71 (0, 0)) ∧ Only (fun b => b = g) w w'
set_option maxRecDepth 100000 in
set_option maxHeartbeats 4000000 in
theorem take_yes {w : World} {g : Nat} {ad : Addr} {n c at_ gb gk gg : Nat} {out : Value} (hb : w.heap[g]? = some (.cells (prow (some ad) n c at_ gb out gk gg) 71 (0, 0))) (k : Nat) (hn : n ≤ 1000000) (hc : n ≤ c) (h : at_ + k ≤ n) :
    Calls Tryz.prog 65 #[.pointer (some ⟨g, 0, none⟩), .int .i64 (k : Int)] w (TakePost g ad n c at_ k gb out gk gg w) := by
  have k0 : w.cell? ⟨g, 0, none⟩ = some (.slice (some ad) n c) := Joins.cell_of_block hb 0
  have k1 : w.cell? ⟨g, 1, none⟩ = some (.int .i64 (at_ : Int)) := Joins.cell_of_block hb 1
  have f1 : w.frozen? ⟨g, 1, none⟩ = false := by simp [World.frozen?, hb]
  have b1 : (n : Int) ≤ 1000000 := by omega
  have b2 : (at_ : Int) ≤ 1000000 := by omega
  have b3 : (k : Int) ≤ 1000000 := by omega
  have b4 : at_ + k ≤ n := h
  have b5 : n ≤ c := hc
  have d1 : decide ((k : Int) ≤ (n : Int) - (at_ : Int)) = true := decide_eq_true (by omega)
  have HB := Lib.hid hb
  clear hb h hn hc
  go_enter Tryz.func65, Tryz.ntmps65
  go_upto_region 1 with (fail)
  go_still_tail 12, (by kernel_rfl)
  change wpList _ _ _ _ _ w.drew
  go_upto_region 2 with (go_at_call 64; rw [d1]; refine (must_yes _).mono ?_; rintro e w1 ⟨rfl, rfl⟩)
  go_quiet (fail)
  have HP := Lib.hid (show (((w.drewN (1 + nq)).setCell ⟨g, 1, none⟩ (.int .i64 ((at_ : Int) + (k : Int)))).heap[g]? = some (.cells (prow (some ad) n c (at_ + k) gb out gk gg) 71 (0, 0))) ∧ Only (fun b => b = g) w ((w.drewN (1 + nq)).setCell ⟨g, 1, none⟩ (.int .i64 ((at_ : Int) + (k : Int)))) from
    ⟨by rw [← prow_at]; exact Joins.block_setCell (w := w.drewN (1 + nq)) HB.out _, ((Only.refl (fun b => b = g) w).drewN _).setCell (p := ⟨g, 1, none⟩) (Or.inl rfl) _⟩)
  by_cases e : c = at_
  · obtain rfl : k = 0 := by omega
    go_wp2_with fail
    go_ret
    exact ⟨some ad, by rw [Nat.sub_self]; rfl, fun h => absurd h (Nat.lt_irrefl 0), by have := HP.out.1; rw [← e] at this ⊢; simpa using this, by have := HP.out.2; simpa using this⟩
  · go_wp2_with fail
    go_ret
    exact ⟨_, rfl, fun _ => rfl, HP.out.1, HP.out.2⟩
set_option maxRecDepth 100000 in
set_option maxHeartbeats 4000000 in
theorem align_no {w : World} {g : Nat} {A : Option Addr} {n c at_ gb gk gg : Nat} {out : Value} (hb : w.heap[g]? = some (.cells (prow A n c at_ gb out gk gg) 71 (0, 0))) (hn : n ≤ 1000000) (hat : at_ ≤ n) (h : n < at_ + padN at_) :
    Calls Tryz.prog 69 #[.pointer (some ⟨g, 0, none⟩)] w fun e w' => e = .panicked (faultC 2) ∧ Only (fun _ => False) w w' := by
  have k1 : w.cell? ⟨g, 1, none⟩ = some (.int .i64 (at_ : Int)) := Joins.cell_of_block hb 1
  have b2 : (at_ : Int) ≤ 1000000 := by omega
  have hp : (4 - (at_ : Int) % 4) % 4 = (padN at_ : Int) := by unfold padN; omega
  have HT := Lib.hid (take_no hb ((padN at_ : Nat) : Int) hn hat (by omega))
  obtain ⟨k, hk⟩ : ∃ k, padN at_ = k := ⟨_, rfl⟩
  rw [hk] at hp HT
  have b3 : (k : Int) ≤ 3 := by omega
  clear hb h hn hat hk
  go_enter Tryz.func69, Tryz.ntmps69
  go_wp2_with (go_at_call 65; refine HT.out.mono ?_; rintro e w1 ⟨rfl, h⟩; have H1 := Lib.hid h; clear h)
  exact ⟨rfl, rfl, H1.out⟩
set_option maxRecDepth 100000 in
set_option maxHeartbeats 4000000 in
theorem align_yes {w : World} {g : Nat} {ad : Addr} {n c at_ gb gk gg : Nat} {out : Value} (hb : w.heap[g]? = some (.cells (prow (some ad) n c at_ gb out gk gg) 71 (0, 0))) (hn : n ≤ 1000000) (hc : n ≤ c) (h : at_ + padN at_ ≤ n) :
    Calls Tryz.prog 69 #[.pointer (some ⟨g, 0, none⟩)] w fun e w' => e = .returned (.tuple #[]) ∧ w'.heap[g]? = some (.cells (prow (some ad) n c (at_ + padN at_) gb out gk gg) 71 (0, 0)) ∧ Only (fun b => b = g) w w' := by
  have k1 : w.cell? ⟨g, 1, none⟩ = some (.int .i64 (at_ : Int)) := Joins.cell_of_block hb 1
  have b2 : (at_ : Int) ≤ 1000000 := by omega
  have hp : (4 - (at_ : Int) % 4) % 4 = (padN at_ : Int) := by unfold padN; omega
  have HT := Lib.hid (take_yes hb (padN at_) hn hc h)
  obtain ⟨k, hk⟩ : ∃ k, padN at_ = k := ⟨_, rfl⟩
  rw [hk] at hp HT ⊢
  have b3 : (k : Int) ≤ 3 := by rw [← hk]; unfold padN; omega
  clear hb h hn hk
  go_enter Tryz.func69, Tryz.ntmps69
  go_wp2_with (go_at_call 65; refine HT.out.mono ?_; rintro e w1 ⟨A', rfl, _, h1, h2⟩; have H1 := Lib.hid h1; have H2 := Lib.hid h2; clear h1 h2)
  go_end0
  exact ⟨rfl, H1.out, H2.out⟩
end Go.Proofs.YtpghionmmlidnaaGreatDoor.Walks
namespace Go.Proofs.YtpghionmmlidnaaGreatDoor.Walks
open Go Go.RowKit Go.Proofs.YtpghionmmlidnaaGreatDoor.Aid Go.Proofs.YtpghionmmlidnaaGreatDoor.Pth Go.Proofs.YtpghionmmlidnaaGreatDoor.Own Go.Proofs.YtpghionmmlidnaaGreatDoorW.PrintWords

theorem bytesOf_ints (l : Str) : Lib.bytesOf (ints l) = l := by
  unfold Lib.bytesOf ints
  rw [List.map_map]
  conv => rhs; rw [← List.map_id l]
  refine List.map_congr_left (fun x _ => ?_)
  simp
theorem ixb_any {w : World} {A : Option Addr} {l : Str} {n c : Nat} (hn : l.length = n) (h0 : 0 < n) (hR : RdU w A l) : Calls Tryz.prog 67 #[.slice A n c, .int .u8 0] w fun e w' => e = .returned (.int .i64 (Lib.indexByte l 0)) ∧ w' = w := by
  obtain ⟨ad, rfl, hc⟩ := hR (by rw [ints_len]; omega)
  have := sh_bytes_IndexByte_at ad n c (ints l) 0 w (by rw [ints_len, hn]) (fun i hi => hc i (by rw [ints_len]; omega))
  rw [bytesOf_ints] at this
  exact this
/-- k is how many bytes are left when the noughts at the end are cut off. -/
def RT (l : Str) (k : Nat) : Prop := k ≤ l.length ∧ (∀ j, k ≤ j → j < l.length → l.getD j 0 = 0) ∧ (k = 0 ∨ l.getD (k - 1) 0 ≠ 0)
theorem rt_one {l : Str} {k m : Nat} (h : RT l k) (g : RT l m) : k = m := by
  obtain ⟨h1, h2, h3⟩ := h
  obtain ⟨g1, g2, g3⟩ := g
  rcases Nat.lt_trichotomy k m with e | e | e
  · rcases g3 with g3 | g3
    · omega
    · exact absurd (h2 (m - 1) (by omega) (by omega)) g3
  · exact e
  · rcases h3 with h3 | h3
    · omega
    · exact absurd (g2 (k - 1) (by omega) (by omega)) h3
theorem rt_is (l : Str) : ∃ k, RT l k := by
  have : ∀ n, n ≤ l.length → (∀ j, n ≤ j → j < l.length → l.getD j 0 = 0) → ∃ k, RT l k := by
    intro n
    induction n with
    | zero => intro _ h; exact ⟨0, Nat.zero_le _, h, Or.inl rfl⟩
    | succ n ih =>
      intro hn h
      by_cases e : l.getD n 0 = 0
      · exact ih (by omega) (fun j h1 h2 => by
          by_cases e2 : j = n
          · rw [e2]; exact e
          · exact h j (by omega) h2)
      · exact ⟨n + 1, hn, h, Or.inr (by rw [Nat.add_sub_cancel]; exact e)⟩
  exact this l.length (Nat.le_refl _) (fun j h1 h2 => absurd h2 (by omega))
/-- i is the place of the first byte that is no nought. -/
def LT (l : Str) (i : Nat) : Prop := (∀ j, j < i → l.getD j 0 = 0) ∧ l.getD i 0 ≠ 0
theorem lt_one {l : Str} {k m : Nat} (h : LT l k) (g : LT l m) : k = m := by
  rcases Nat.lt_trichotomy k m with e | e | e
  · exact absurd (g.1 k e) h.2
  · exact e
  · exact absurd (h.1 m e) g.2
theorem lt_is {l : Str} {k : Nat} (h : l.getD k 0 ≠ 0) : ∃ i, LT l i ∧ i ≤ k := by
  induction k using Nat.strongRecOn with
  | _ k ih =>
    by_cases e : ∀ j, j < k → l.getD j 0 = 0
    · exact ⟨k, ⟨e, h⟩, Nat.le_refl _⟩
    · obtain ⟨j, hj, hj2⟩ : ∃ j, j < k ∧ l.getD j 0 ≠ 0 := by
        refine Classical.byContradiction fun hc => e fun j hj => Classical.byContradiction fun h2 => hc ⟨j, hj, h2⟩
      obtain ⟨i, h1, h2⟩ := ih j hj hj2
      exact ⟨i, h1, by omega⟩
def TrimRPost (l : Str) (A : Option Addr) (c : Nat) (w : World) (e : Ending) (w' : World) : Prop := ∃ k, e = .returned (.slice A k c) ∧ RT l k ∧ w' = w
set_option maxRecDepth 100000 in
set_option maxHeartbeats 4000000 in
theorem trimR_any {w : World} {ad : Addr} {l : Str} {n c : Nat} (hn : l.length = n) (hl : n ≤ 1000000) (hc : n ≤ c) (hR : RdU w (some ad) l) : Calls Tryz.prog 110 #[.slice (some ad) n c, .int .u8 0] w (TrimRPost l (some ad) c w) := by
  have HN := Lib.hid hn
  have HC := Lib.hid (show ∀ j, j < n → w.cell? (ad.add j) = some (.int .u8 ((l.getD j 0).toNat : Int)) from fun j hj => by
    obtain ⟨ad', e, h⟩ := hR.cells (by omega)
    cases e
    exact h j (by omega))
  have b0 : (n : Int) ≤ 1000000 := by omega
  have HCc := Lib.hid hc
  clear hR hn hl hc
  go_enter Tryz.func110, Tryz.ntmps110
  go_wp2_with fail
  go_loopw [0] (fun v0 u => ∃ k : Nat, v0 = .slice (some ad) k c ∧ k ≤ n ∧ Hid (∀ j, k ≤ j → j < n → l.getD j 0 = 0) ∧ w = u) (fun v _ => match v with | .slice _ k _ => k | _ => 0)
  case atStart => exact ⟨n, rfl, Nat.le_refl _, Lib.hid (fun j h1 h2 => absurd h2 (by omega)), rfl⟩
  case round =>
    obtain ⟨k, rfl, hk, HZ, rfl⟩ := hrel
    by_cases c0 : k = 0
    · subst c0
      have HP := Lib.hid (show TrimRPost l (some ad) c w (.returned (.slice (some ad) 0 c)) w from ⟨0, rfl, ⟨Nat.zero_le _, fun j h1 h2 => HZ.out j h1 (by rw [← HN.out]; exact h2), Or.inl rfl⟩, rfl⟩)
      go_wp2_with fail
      go_ret
      exact HP.out
    · obtain ⟨m, rfl⟩ : ∃ m, k = m + 1 := ⟨k - 1, by omega⟩
      have hcell := HC.out m (by omega)
      obtain ⟨x, hx⟩ : ∃ x, l.getD m 0 = x := ⟨_, rfl⟩
      rw [hx] at hcell
      have HX := Lib.hid hx
      have b1 : (m : Int) + 1 ≤ 1000000 := by omega
      have b2 : m + 1 ≤ c := Nat.le_trans hk HCc.out
      have d1 : decide ((m : Int) + 1 > 0) = true := decide_eq_true (by omega)
      clear hx c0
      by_cases cx : x = 0
      · have d2 : ((x.toNat : Int) == 0) = true := by rw [cx]; rfl
        have HX0 := Lib.hid cx
        clear cx
        go_wp2_with fail
        exact ⟨⟨m, rfl, by omega, Lib.hid (fun j h1 h2 => by
          by_cases e : j = m
          · rw [e, HX.out, HX0.out]
          · exact HZ.out j (by omega) h2), trivial⟩, Nat.lt_succ_self m⟩
      · have d2 : ((x.toNat : Int) == 0) = false := by
          rw [beq_eq_false_iff_ne]
          exact fun e => cx (UInt8.toNat.inj (by have : x.toNat = 0 := by omega
                                                 rw [this]; rfl))
        have HP := Lib.hid (show TrimRPost l (some ad) c w (.returned (.slice (some ad) (m + 1) c)) w from ⟨m + 1, rfl, ⟨by rw [HN.out]; exact hk, fun j h1 h2 => HZ.out j h1 (by rw [← HN.out]; exact h2), Or.inr (by rw [Nat.add_sub_cancel, HX.out]; exact cx)⟩, rfl⟩)
        clear cx
        go_wp2_with fail
        go_ret
        exact HP.out
theorem add_next (ad : Addr) (i : Nat) : (ad.add i).add 1 = ad.add (i + 1) := add_add ad i 1
set_option maxRecDepth 100000 in
set_option maxHeartbeats 4000000 in
theorem trimL_nil (A : Option Addr) (c : Nat) (w : World) : Calls Tryz.prog 109 #[.slice A 0 c, .int .u8 0] w fun e w' => e = .returned (.slice none 0 0) ∧ w' = w := by
  go_enter Tryz.func109, Tryz.ntmps109
  go_wp2_with fail
  go_loopw [0] (fun v0 u => v0 = .slice A 0 c ∧ w = u) (fun v _ => 0)
  case atStart => exact ⟨rfl, rfl⟩
  case round =>
    obtain ⟨rfl, rfl⟩ := hrel
    go_wp2_with fail
    go_ret
    exact ⟨rfl, rfl⟩
set_option maxRecDepth 100000 in
set_option maxHeartbeats 4000000 in
theorem trimL_some {w : World} {ad : Addr} {l : Str} {k c : Nat} (hk : 0 < k) (hl : k ≤ 1000000) (hc : k ≤ c) (hC : ∀ j, j < k → w.cell? (ad.add j) = some (.int .u8 ((l.getD j 0).toNat : Int))) (hlast : l.getD (k - 1) 0 ≠ 0) : Calls Tryz.prog 109 #[.slice (some ad) k c, .int .u8 0] w fun e w' => ∃ i, e = .returned (.slice (some (ad.add i)) (k - i) (c - i)) ∧ LT l i ∧ w' = w := by
  have HC := Lib.hid hC
  have HL := Lib.hid hlast
  have HK := Lib.hid hk
  have HCc := Lib.hid hc
  have b0 : (k : Int) ≤ 1000000 := by omega
  clear hC hlast hk hc hl
  go_enter Tryz.func109, Tryz.ntmps109
  go_wp2_with fail
  go_loopw [0] (fun v0 u => ∃ i m : Nat, v0 = .slice (some (ad.add i)) m (c - i) ∧ m + i = k ∧ 0 < m ∧ Hid (∀ j, j < i → l.getD j 0 = 0) ∧ w = u) (fun v _ => match v with | .slice _ m _ => m | _ => 0)
  case atStart => exact ⟨0, k, by rw [Nat.sub_zero]; rfl, rfl, HK.out, Lib.hid (fun j h => absurd h (Nat.not_lt_zero j)), rfl⟩
  case round =>
    obtain ⟨i, m, rfl, hm, hpos, HZ, rfl⟩ := hrel
    have hcell := HC.out i (by omega)
    obtain ⟨x, hx⟩ : ∃ x, l.getD i 0 = x := ⟨_, rfl⟩
    rw [hx] at hcell
    have HX := Lib.hid hx
    obtain ⟨C, hCd⟩ : ∃ C, c - i = C := ⟨_, rfl⟩
    have HCd := Lib.hid hCd
    have b1 : (m : Int) ≤ 1000000 := by omega
    have b2 : m ≤ C := by have := HCc.out; omega
    have d1 : decide ((m : Int) > 0) = true := decide_eq_true (by omega)
    have d1' : decide (0 < m) = true := decide_eq_true hpos
    have HM := Lib.hid hm
    rw [hCd]
    clear hx hm hCd
    by_cases cx : x = 0
    · have d2 : ((x.toNat : Int) == 0) = true := by rw [cx]; rfl
      have hm2 : 1 < m := by
        by_cases e : m = 1
        · exact absurd (by rw [show k - 1 = i by have := HM.out; omega, HX.out, cx]) HL.out
        · omega
      have c1 : ¬ C = 1 := by omega
      have b3 : 1 ≤ m := by omega
      have HAd := Lib.hid (add_next ad i)
      have HZ2 := Lib.hid (show ∀ j, j < i + 1 → l.getD j 0 = 0 from fun j h1 => by
        by_cases e : j = i
        · rw [e, HX.out, cx]
        · exact HZ.out j (by omega))
      clear cx
      go_wp2_with fail
      refine ⟨⟨i + 1, m - 1, ?_, by have := HM.out; omega, by omega, Lib.hid HZ2.out, trivial⟩, by show m - 1 < m; omega⟩
      rw [show (some (⟨(ad.add i).block, (ad.add i).off + 1, none⟩ : Addr)) = some (ad.add (i + 1)) from congrArg some ((show _ = (ad.add i).add 1 from rfl).trans HAd.out), show C - 1 = c - (i + 1) by have := HCd.out; omega]
    · have d2 : ((x.toNat : Int) == 0) = false := by
        rw [beq_eq_false_iff_ne]
        exact fun e => cx (UInt8.toNat.inj (by have : x.toNat = 0 := by omega
                                               rw [this]; rfl))
      have d3 : ((m : Int) == 0) = false := by rw [beq_eq_false_iff_ne]; omega
      have HP := Lib.hid (show LT l i from ⟨HZ.out, by rw [HX.out]; exact cx⟩)
      have HMi := Lib.hid (show m = k - i by have := HM.out; omega)
      clear cx
      go_wp2_with fail
      go_ret
      exact ⟨i, by rw [← HMi.out, HCd.out]; rfl, HP.out, rfl⟩
def zerosB (l : Str) : Bool := decide (∀ j, j < l.length → l.getD j 0 = 0)
set_option maxRecDepth 100000 in
set_option maxHeartbeats 4000000 in
/-- Is anything left? What is handed back hangs on the text alone. -/
theorem trim_any {ad : Addr} {l : Str} {n c : Nat} (hn : l.length = n) (hl : n ≤ 1000000) (hc : n ≤ c) : ∃ (A : Option Addr) (m k : Nat), decide (m = 0) = zerosB l ∧ ∀ w, RdU w (some ad) l → Calls Tryz.prog 93 #[.slice (some ad) n c, .string ⟨#[0]⟩] w fun e w' => e = .returned (.slice A m k) ∧ Only (fun _ => False) w w' := by
  by_cases h0 : n = 0
  · subst h0
    have hl0 : l = [] := List.eq_nil_of_length_eq_zero hn
    refine ⟨none, 0, 0, ?_, fun w _ => ?_⟩
    · rw [hl0]; exact (decide_eq_true (fun j hj => absurd hj (Nat.not_lt_zero j))).symm
    clear hn hl hc hl0
    go_enter Tryz.func93, Tryz.ntmps93
    go_wp2_with fail
    go_ret
    exact ⟨rfl, Only.refl _ _⟩
  · obtain ⟨k, hk⟩ := rt_is l
    have hkn : k ≤ n := by rw [← hn]; exact hk.1
    have d0 : ((n : Int) == 0) = false := by rw [beq_eq_false_iff_ne]; omega
    have hx := index_at (S := ⟨#[0]⟩) (i := 0) (by decide)
    by_cases k0 : k = 0
    · subst k0
      refine ⟨none, 0, 0, (show zerosB l = true from decide_eq_true (fun j hj => hk.2.1 j (Nat.zero_le _) hj)).symm, fun w hR => ?_⟩
      have HR := Lib.hid (fun u (hu : Only (fun _ => False) w u) => (trimR_any hn hl hc (hR.only hu)).mono (show ∀ e w', TrimRPost l (some ad) c u e w' → e = .returned (.slice (some ad) 0 c) ∧ w' = u from fun e w' ⟨k', h1, h2, h3⟩ => ⟨by rw [h1, rt_one h2 hk], h3⟩))
      clear hR hn hl hc h0 hk hkn
      go_enter Tryz.func93, Tryz.ntmps93
      go_wp2_with fail
      go_upto_region 6 with (fail)
      refine wp_region_later (by kernel_rfl) (by kernel_rfl) ?_
      repeat (go_big_quiet_step ((first | (go_at_call 110; exact Calls.laterSame (HR.out _ (Later.h _))) | (go_at_call 109; exact Calls.laterSame (trimL_nil _ _ _)))))
      refine wpQuiet_nil ?_
      rintro u ⟨x, hx⟩
      have hu := x.h
      rw [← hx] at hu
      clear hx
      go_wp2_with fail
      go_ret
      exact ⟨rfl, hu⟩
    · obtain ⟨i, hi, hik⟩ := lt_is (l := l) (k := k - 1) (hk.2.2.resolve_left k0)
      have hik2 : i < k := by omega
      refine ⟨some (ad.add i), k - i, c - i, (decide_eq_false (by omega)).trans (show zerosB l = false from decide_eq_false (fun h => hi.2 (h i (by omega)))).symm, fun w hR => ?_⟩
      obtain ⟨ad', e', hcells⟩ := hR.cells (by omega)
      cases e'
      have HR := Lib.hid (fun u (hu : Only (fun _ => False) w u) => (trimR_any hn hl hc (hR.only hu)).mono (show ∀ e w', TrimRPost l (some ad) c u e w' → e = .returned (.slice (some ad) k c) ∧ w' = u from fun e w' ⟨k', h1, h2, h3⟩ => ⟨by rw [h1, rt_one h2 hk], h3⟩))
      have HLt := Lib.hid (fun u (hu : Only (fun _ => False) w u) => (trimL_some (l := l) (c := c) (Nat.pos_of_ne_zero k0) (by omega) (by omega) (fun j hj => hu.cell (hcells j (by omega)) id) (hk.2.2.resolve_left k0)).mono (show ∀ e w', (∃ i', e = Ending.returned (.slice (some (ad.add i')) (k - i') (c - i')) ∧ LT l i' ∧ w' = u) → e = .returned (.slice (some (ad.add i)) (k - i) (c - i)) ∧ w' = u from fun e w' ⟨i', h1, h2, h3⟩ => ⟨by rw [h1, lt_one h2 hi], h3⟩))
      clear hR hn hl hc hcells h0 hk hkn hi hik hik2 k0
      go_enter Tryz.func93, Tryz.ntmps93
      go_wp2_with fail
      go_upto_region 6 with (fail)
      refine wp_region_later (by kernel_rfl) (by kernel_rfl) ?_
      repeat (go_big_quiet_step ((first | (go_at_call 110; exact Calls.laterSame (HR.out _ (Later.h _))) | (go_at_call 109; exact Calls.laterSame (HLt.out _ (Later.h _))))))
      refine wpQuiet_nil ?_
      rintro u ⟨x, hx⟩
      have hu := x.h
      rw [← hx] at hu
      clear hx
      go_wp2_with fail
      go_ret
      exact ⟨rfl, hu⟩
end Go.Proofs.YtpghionmmlidnaaGreatDoor.Walks
namespace Go.Proofs.YtpghionmmlidnaaGreatDoor.Walks
open Go Go.RowKit Go.Proofs.YtpghionmmlidnaaGreatDoor.Aid Go.Proofs.YtpghionmmlidnaaGreatDoor.Pth Go.Proofs.YtpghionmmlidnaaGreatDoor.Own Go.Proofs.YtpghionmmlidnaaGreatDoorW.PrintWords

/-- A digit's number, great letters or small ones. -/
def hexV (c : UInt8) : Option Nat := if 48 ≤ c.toNat ∧ c.toNat ≤ 57 then some (c.toNat - 48) else if 97 ≤ c.toNat ∧ c.toNat ≤ 102 then some (c.toNat - 87) else if 65 ≤ c.toNat ∧ c.toNat ≤ 70 then some (c.toNat - 55) else none
def hexGo : Nat → Str → Option Nat
  | a, [] => some a
  | a, c :: r => match hexV c with
    | none => none
    | some d => hexGo (a * 16 + d) r
/-- Eight digits' number. -/
def hexL (s : Str) : Option Nat := if s.length = 8 then hexGo 0 s else none
theorem hexV_lt {c : UInt8} {d : Nat} (h : hexV c = some d) : d < 16 := by
  unfold hexV at h
  split at h
  · injection h; omega
  · split at h
    · injection h; omega
    · split at h
      · injection h; omega
      · cases h
theorem hexGo_lt : ∀ (s : Str) (a v : Nat), hexGo a s = some v → v < (a + 1) * 16 ^ s.length
  | [], a, v, h => by injection h; subst v; simp
  | c :: r, a, v, h => by
    unfold hexGo at h
    cases hd : hexV c with
    | none => rw [hd] at h; cases h
    | some d =>
      rw [hd] at h
      have h1 := hexGo_lt r _ _ h
      have h2 := hexV_lt hd
      rw [List.length_cons, Nat.pow_succ, Nat.mul_comm (16 ^ r.length), ← Nat.mul_assoc]
      exact Nat.lt_of_lt_of_le h1 (Nat.mul_le_mul_right _ (by omega))
theorem hexL_lt {s : Str} {v : Nat} (h : hexL s = some v) : v ≤ 4294967295 := by
  unfold hexL at h
  split at h
  · rename_i h8
    have := hexGo_lt s 0 v h
    rw [h8] at this
    omega
  · cases h
theorem hexGo_at {s : Str} {i : Nat} {x : UInt8} {a : Nat} (hi : i < s.length) (hx : s.getD i 0 = x) : hexGo a (s.drop i) = match hexV x with | none => none | some d => hexGo (a * 16 + d) (s.drop (i + 1)) := by
  have : s.drop i = x :: s.drop (i + 1) := by
    rw [List.drop_eq_getElem_cons hi, ← hx, List.getD_eq_getElem?_getD, List.getElem?_eq_getElem hi]; rfl
  rw [this]; rfl
def HexPost (s : Str) (w : World) (e : Ending) (w' : World) : Prop := (match hexL s with
  | none => e = .returned (.tuple #[.int .i64 0, .int .i64 2])
  | some v => e = .returned (.tuple #[.int .i64 (v : Int), .int .i64 0])) ∧ w' = w
theorem or_hex {a d : Nat} (ha : a < 16 ^ 7) (hd : d < 16) : Go.bits .or .i64 ((a : Int) * 16) (d : Int) = ((a * 16 + d : Nat) : Int) := by
  have h := or_nat stays_i64 (a := a * 16) (b := d) (by omega) (by omega)
  rw [Int.natCast_mul] at h
  have e : (16 : Int) = ((16 : Nat) : Int) := rfl
  rw [e, h]
  congr 1
  have := Nat.two_pow_add_eq_or_of_lt (i := 4) (b := d) (by omega) a
  rw [show a * 16 = 2 ^ 4 * a by omega, this]
set_option maxRecDepth 100000 in
set_option maxHeartbeats 4000000 in
theorem hex_any (S : ByteArray) (w : World) (hs : S.size ≤ 1000000) : Calls Tryz.prog 66 #[.string S] w (HexPost S.data.toList w) := by
  have b0 : (S.size : Int) ≤ 1000000 := by omega
  have HE := Lib.hid (show S.data.toList.length = S.size from rfl)
  obtain ⟨s, hsd⟩ : ∃ s, S.data.toList = s := ⟨_, rfl⟩
  have HL := Lib.hid hsd
  rw [hsd] at HE ⊢
  clear hs hsd
  by_cases h8 : S.size = 8
  · have d0 : ((S.size : Int) != 8) = false := by rw [h8]; rfl
    have HX := Lib.hid (show hexL s = hexGo 0 s by unfold hexL; rw [if_pos (by rw [HE.out, h8])])
    have H8 := Lib.hid (show s.length = 8 by rw [HE.out, h8])
    have HS8 := Lib.hid h8
    clear h8
    go_enter Tryz.func66, Tryz.ntmps66
    go_wp2_with fail
    go_loopw [4, 12] (fun v4 v12 u => ∃ (i a : Nat), v4 = .int .i64 (a : Int) ∧ v12 = .int .i64 (i : Int) ∧ i ≤ 8 ∧ Hid (a < 16 ^ i) ∧ Hid (hexGo 0 s = hexGo a (s.drop i)) ∧ w = u) (fun _ i _ => 8 - (intOf i).toNat)
    case atStart => exact ⟨0, 0, rfl, rfl, by omega, Lib.hid (by decide), Lib.hid rfl, rfl⟩
    case round =>
      obtain ⟨i, a, rfl, rfl, hi, HA, HG, rfl⟩ := hrel
      by_cases ci : i < 8
      · have h8 := HS8.out
        have d1 : decide ((i : Int) < (S.size : Int)) = true := decide_eq_true (by omega)
        have d1' : decide (i < S.size) = true := decide_eq_true (by omega)
        have d2 : (i : Int) < (S.size : Int) := by omega
        have d3 : i < S.size := by omega
        have hx := index_at d3
        rw [HL.out] at hx
        obtain ⟨x, hxx⟩ : ∃ x, s.getD i 0 = x := ⟨_, rfl⟩
        rw [hxx] at hx
        have HN := Lib.hid (hexGo_at (a := a) (by rw [H8.out]; exact ci) hxx)
        have hA7 : a < 16 ^ 7 := Nat.lt_of_lt_of_le HA.out (Nat.pow_le_pow_right (by decide) (by omega))
        have HA1 := Lib.hid (fun (d : Nat) (hd : d < 16) => show a * 16 + d < 16 ^ (i + 1) by have := HA.out; rw [Nat.pow_succ]; omega)
        have b1 : (a : Int) < 268435456 := by omega
        have b2 := x.toNat_lt
        have HA7 := Lib.hid hA7
        have HCi := Lib.hid ci
        clear hxx h8 hA7 ci
        have HOr := Lib.hid (fun (d : Nat) (hd : d < 16) (z : Int) (hz : z = (d : Int)) => show Go.bits .or .i64 ((a : Int) * 16) z = ((a * 16 + d : Nat) : Int) by rw [hz]; exact or_hex HA7.out hd)
        have hc : (x.toNat ≤ 47) ∨ (48 ≤ x.toNat ∧ x.toNat ≤ 57) ∨ (58 ≤ x.toNat ∧ x.toNat ≤ 64) ∨ (65 ≤ x.toNat ∧ x.toNat ≤ 70) ∨ (71 ≤ x.toNat ∧ x.toNat ≤ 96) ∨ (97 ≤ x.toNat ∧ x.toNat ≤ 102) ∨ (103 ≤ x.toNat) := by omega
        rcases hc with hc | hc | hc | hc | hc | hc | hc
        · have f00 : decide ((x.toNat : Int) ≥ 48) = false := decide_eq_false (by omega)
          have g00 : decide (48 ≤ x.toNat) = false := decide_eq_false (by omega)
          have f01 : decide ((x.toNat : Int) ≥ 97) = false := decide_eq_false (by omega)
          have g01 : decide (97 ≤ x.toNat) = false := decide_eq_false (by omega)
          have f02 : decide ((x.toNat : Int) ≥ 65) = false := decide_eq_false (by omega)
          have g02 : decide (65 ≤ x.toNat) = false := decide_eq_false (by omega)
          have HV := Lib.hid (show hexL s = none by
            have hv : hexV x = none := by unfold hexV; rw [if_neg (by omega), if_neg (by omega), if_neg (by omega)]
            rw [HX.out, HG.out, HN.out, hv])
          clear hc
          go_wp2_with fail
          go_ret2
          exact ⟨by rw [HV.out]; rfl, rfl⟩
        · have f10 : decide ((x.toNat : Int) ≥ 48) = true := decide_eq_true (by omega)
          have g10 : decide (48 ≤ x.toNat) = true := decide_eq_true (by omega)
          have f11 : decide ((x.toNat : Int) ≤ 57) = true := decide_eq_true (by omega)
          have g11 : decide (x.toNat ≤ 57) = true := decide_eq_true (by omega)
          have HV := Lib.hid (show hexV x = some (x.toNat - 48) by unfold hexV; repeat (first | rw [if_pos (by omega)] | rw [if_neg (by omega)]))
          have HC := Lib.hid hc
          clear hc
          go_wp2_with fail
          exact ⟨⟨i + 1, a * 16 + (x.toNat - 48), congrArg (Value.int .i64) (HOr.out _ (by have := HC.out; omega) _ (by have := HC.out; omega)), by simp, by have := HCi.out; omega, Lib.hid (HA1.out _ (by have := HC.out; omega)), Lib.hid (by rw [HG.out, HN.out, HV.out]), by first | rfl | trivial⟩, by have := HCi.out; simp [intOf]; omega⟩
        · have f20 : decide ((x.toNat : Int) ≥ 48) = true := decide_eq_true (by omega)
          have g20 : decide (48 ≤ x.toNat) = true := decide_eq_true (by omega)
          have f21 : decide ((x.toNat : Int) ≤ 57) = false := decide_eq_false (by omega)
          have g21 : decide (x.toNat ≤ 57) = false := decide_eq_false (by omega)
          have f22 : decide ((x.toNat : Int) ≥ 97) = false := decide_eq_false (by omega)
          have g22 : decide (97 ≤ x.toNat) = false := decide_eq_false (by omega)
          have f23 : decide ((x.toNat : Int) ≥ 65) = false := decide_eq_false (by omega)
          have g23 : decide (65 ≤ x.toNat) = false := decide_eq_false (by omega)
          have HV := Lib.hid (show hexL s = none by
            have hv : hexV x = none := by unfold hexV; rw [if_neg (by omega), if_neg (by omega), if_neg (by omega)]
            rw [HX.out, HG.out, HN.out, hv])
          clear hc
          go_wp2_with fail
          go_ret2
          exact ⟨by rw [HV.out]; rfl, rfl⟩
        · have f30 : decide ((x.toNat : Int) ≥ 48) = true := decide_eq_true (by omega)
          have g30 : decide (48 ≤ x.toNat) = true := decide_eq_true (by omega)
          have f31 : decide ((x.toNat : Int) ≤ 57) = false := decide_eq_false (by omega)
          have g31 : decide (x.toNat ≤ 57) = false := decide_eq_false (by omega)
          have f32 : decide ((x.toNat : Int) ≥ 97) = false := decide_eq_false (by omega)
          have g32 : decide (97 ≤ x.toNat) = false := decide_eq_false (by omega)
          have f33 : decide ((x.toNat : Int) ≥ 65) = true := decide_eq_true (by omega)
          have g33 : decide (65 ≤ x.toNat) = true := decide_eq_true (by omega)
          have f34 : decide ((x.toNat : Int) ≤ 70) = true := decide_eq_true (by omega)
          have g34 : decide (x.toNat ≤ 70) = true := decide_eq_true (by omega)
          have HV := Lib.hid (show hexV x = some (x.toNat - 55) by unfold hexV; repeat (first | rw [if_pos (by omega)] | rw [if_neg (by omega)]))
          have HC := Lib.hid hc
          clear hc
          go_wp2_with fail
          exact ⟨⟨i + 1, a * 16 + (x.toNat - 55), congrArg (Value.int .i64) (HOr.out _ (by have := HC.out; omega) _ (by have := HC.out; omega)), by simp, by have := HCi.out; omega, Lib.hid (HA1.out _ (by have := HC.out; omega)), Lib.hid (by rw [HG.out, HN.out, HV.out]), by first | rfl | trivial⟩, by have := HCi.out; simp [intOf]; omega⟩
        · have f40 : decide ((x.toNat : Int) ≥ 48) = true := decide_eq_true (by omega)
          have g40 : decide (48 ≤ x.toNat) = true := decide_eq_true (by omega)
          have f41 : decide ((x.toNat : Int) ≤ 57) = false := decide_eq_false (by omega)
          have g41 : decide (x.toNat ≤ 57) = false := decide_eq_false (by omega)
          have f42 : decide ((x.toNat : Int) ≥ 97) = false := decide_eq_false (by omega)
          have g42 : decide (97 ≤ x.toNat) = false := decide_eq_false (by omega)
          have f43 : decide ((x.toNat : Int) ≥ 65) = true := decide_eq_true (by omega)
          have g43 : decide (65 ≤ x.toNat) = true := decide_eq_true (by omega)
          have f44 : decide ((x.toNat : Int) ≤ 70) = false := decide_eq_false (by omega)
          have g44 : decide (x.toNat ≤ 70) = false := decide_eq_false (by omega)
          have HV := Lib.hid (show hexL s = none by
            have hv : hexV x = none := by unfold hexV; rw [if_neg (by omega), if_neg (by omega), if_neg (by omega)]
            rw [HX.out, HG.out, HN.out, hv])
          clear hc
          go_wp2_with fail
          go_ret2
          exact ⟨by rw [HV.out]; rfl, rfl⟩
        · have f50 : decide ((x.toNat : Int) ≥ 48) = true := decide_eq_true (by omega)
          have g50 : decide (48 ≤ x.toNat) = true := decide_eq_true (by omega)
          have f51 : decide ((x.toNat : Int) ≤ 57) = false := decide_eq_false (by omega)
          have g51 : decide (x.toNat ≤ 57) = false := decide_eq_false (by omega)
          have f52 : decide ((x.toNat : Int) ≥ 97) = true := decide_eq_true (by omega)
          have g52 : decide (97 ≤ x.toNat) = true := decide_eq_true (by omega)
          have f53 : decide ((x.toNat : Int) ≤ 102) = true := decide_eq_true (by omega)
          have g53 : decide (x.toNat ≤ 102) = true := decide_eq_true (by omega)
          have HV := Lib.hid (show hexV x = some (x.toNat - 87) by unfold hexV; repeat (first | rw [if_pos (by omega)] | rw [if_neg (by omega)]))
          have HC := Lib.hid hc
          clear hc
          go_wp2_with fail
          exact ⟨⟨i + 1, a * 16 + (x.toNat - 87), congrArg (Value.int .i64) (HOr.out _ (by have := HC.out; omega) _ (by have := HC.out; omega)), by simp, by have := HCi.out; omega, Lib.hid (HA1.out _ (by have := HC.out; omega)), Lib.hid (by rw [HG.out, HN.out, HV.out]), by first | rfl | trivial⟩, by have := HCi.out; simp [intOf]; omega⟩
        · have f60 : decide ((x.toNat : Int) ≥ 48) = true := decide_eq_true (by omega)
          have g60 : decide (48 ≤ x.toNat) = true := decide_eq_true (by omega)
          have f61 : decide ((x.toNat : Int) ≤ 57) = false := decide_eq_false (by omega)
          have g61 : decide (x.toNat ≤ 57) = false := decide_eq_false (by omega)
          have f62 : decide ((x.toNat : Int) ≥ 97) = true := decide_eq_true (by omega)
          have g62 : decide (97 ≤ x.toNat) = true := decide_eq_true (by omega)
          have f63 : decide ((x.toNat : Int) ≤ 102) = false := decide_eq_false (by omega)
          have g63 : decide (x.toNat ≤ 102) = false := decide_eq_false (by omega)
          have f64 : decide ((x.toNat : Int) ≥ 65) = true := decide_eq_true (by omega)
          have g64 : decide (65 ≤ x.toNat) = true := decide_eq_true (by omega)
          have f65 : decide ((x.toNat : Int) ≤ 70) = false := decide_eq_false (by omega)
          have g65 : decide (x.toNat ≤ 70) = false := decide_eq_false (by omega)
          have HV := Lib.hid (show hexL s = none by
            have hv : hexV x = none := by unfold hexV; rw [if_neg (by omega), if_neg (by omega), if_neg (by omega)]
            rw [HX.out, HG.out, HN.out, hv])
          clear hc
          go_wp2_with fail
          go_ret2
          exact ⟨by rw [HV.out]; rfl, rfl⟩
      · obtain rfl : i = 8 := by omega
        have h8 := HS8.out
        have d1 : decide (((8 : Nat) : Int) < (S.size : Int)) = false := decide_eq_false (by omega)
        have d1' : decide (8 < S.size) = false := decide_eq_false (by omega)
        have d1'' : decide ((8 : Int) < (S.size : Int)) = false := decide_eq_false (by omega)
        have HV := Lib.hid (show hexL s = some a by rw [HX.out, HG.out, List.drop_eq_nil_of_le (by rw [H8.out]; exact Nat.le_refl _)]; rfl)
        clear h8
        go_wp2_with fail
        go_ret2
        exact ⟨by rw [HV.out]; rfl, rfl⟩
  · have d0 : ((S.size : Int) != 8) = true := by rw [bne_iff_ne]; omega
    have HX := Lib.hid (show hexL s = none by unfold hexL; rw [if_neg (by rw [HE.out]; exact h8)])
    go_enter Tryz.func66, Tryz.ntmps66
    go_wp2_with fail
    go_ret2
    exact ⟨by rw [HX.out]; rfl, rfl⟩
end Go.Proofs.YtpghionmmlidnaaGreatDoor.Walks
namespace Go.Proofs.YtpghionmmlidnaaGreatDoor.Bud
open Go Go.RowKit Go.Proofs.YtpghionmmlidnaaGreatDoor.Aid

def withinB (n m : Int) : Bool := decide (0 ≤ n) && decide (n ≤ m)
theorem within_yes (n m : Int) (w : World) (h : 0 ≤ n) : Calls Tryz.prog 91 #[.int .i64 n, .int .i64 m] w fun e w' => e = .returned (.bool (withinB n m)) ∧ w = w' := by
  go_enter Tryz.func91, Tryz.ntmps91
  go_wp2
  go_ret
  exact ⟨by simp [withinB, h], rfl⟩
theorem within_no (n m : Int) (w : World) (h : n < 0) : Calls Tryz.prog 91 #[.int .i64 n, .int .i64 m] w fun e w' => e = .returned (.bool (withinB n m)) ∧ w = w' := by
  have h' : decide (0 ≤ n) = false := by simp; omega
  have h'' : decide (n ≥ 0) = false := by simp; omega
  clear h
  go_enter Tryz.func91, Tryz.ntmps91
  go_wp2
  go_ret
  exact ⟨by simp [withinB, h'], rfl⟩
theorem within_any (n m : Int) (w : World) : Calls Tryz.prog 91 #[.int .i64 n, .int .i64 m] w fun e w' => e = .returned (.bool (withinB n m)) ∧ w = w' := by
  by_cases h : 0 ≤ n
  · exact within_yes n m w h
  · exact within_no n m w (by omega)

abbrev lim (e t n p : Int) (r : Nat) : Value := .agg #[.int .i64 e, .int .i64 t, .int .i64 n, .int .i64 p, .float .f64 r]
def mayB (e t n p : Int) : Bool := withinB e 1073741824 && withinB t 1073741824 && withinB n 1048576 && withinB p 4096
theorem may_any (e t n p : Int) (r : Nat) (w : World) : Calls Tryz.prog 63 #[lim e t n p r] w fun en w' => en = .returned (.bool (mayB e t n p)) ∧ Below w.heap.size w w' := by
  go_enter Tryz.func63, Tryz.ntmps63
  go_wp2_with (first | (go_at_call 91; refine (within_any _ _ _).mono ?_; rintro e w' ⟨rfl, rfl⟩))
  all_goals go_ret
  all_goals exact ⟨by simp [mayB, *], (Below.refl _ _).alloc (Nat.le_refl _) _⟩

/-- A budget in memory: block g. -/
def bud (e t n p : Int) (r : Nat) (en tot ow : Int) : Obj := .cells #[.int .i64 e, .int .i64 t, .int .i64 n, .int .i64 p, .float .f64 r, .int .i64 en, .int .i64 tot, .int .i64 ow] 88 (0, 0)
def NewPost (e t n p : Int) (r : Nat) (w : World) (en : Ending) (w' : World) : Prop :=
  if mayB e t n p = true then ∃ g, en = .returned (.tuple #[.pointer (some ⟨g, 0, none⟩), .int .i64 0]) ∧ w.heap.size ≤ g ∧ w'.heap[g]? = some (bud e t n p r 0 0 0) ∧ Below w.heap.size w w'
  else en = .returned (.tuple #[.pointer none, .int .i64 1]) ∧ Below w.heap.size w w'
theorem new_any (e t n p : Int) (r : Nat) (w : World) : Calls Tryz.prog 33 #[lim e t n p r] w (NewPost e t n p r w) := by
  by_cases hm : mayB e t n p = true
  all_goals
    go_enter Tryz.func33, Tryz.ntmps33
    go_wp2_with fail
    go_at_call 63
    refine (may_any e t n p r _).mono ?_
    rintro en w1 ⟨rfl, hb⟩
    obtain ⟨hc, hf⟩ := bcell hb
    have hz := hb.size
    simp at hz
    go_wp2
    go_ret2
    unfold NewPost
  · rw [if_pos hm]
    exact ⟨_, rfl, by omega, alloc_new _ _, (((Below.refl _ _).alloc (Nat.le_refl _) _).trans (hb.mono (by simp))).alloc (by omega) _⟩
  · rw [if_neg hm]
    exact ⟨rfl, ((Below.refl _ _).alloc (Nat.le_refl _) _).trans (hb.mono (by simp))⟩
section
variable {w : World} {g : Nat} {e t n p : Int} {r : Nat} {en tot ow : Int}
theorem bud_cells (h : w.heap[g]? = some (bud e t n p r en tot ow)) : w.cell? ⟨g, 0, none⟩ = some (.int .i64 e) ∧ w.cell? ⟨g, 1, none⟩ = some (.int .i64 t) ∧ w.cell? ⟨g, 2, none⟩ = some (.int .i64 n) ∧ w.cell? ⟨g, 3, none⟩ = some (.int .i64 p) ∧ w.cell? ⟨g, 5, none⟩ = some (.int .i64 en) ∧ w.cell? ⟨g, 6, none⟩ = some (.int .i64 tot) ∧ w.cell? ⟨g, 7, none⟩ = some (.int .i64 ow) := by
  unfold bud at h
  refine ⟨?_, ?_, ?_, ?_, ?_, ?_, ?_⟩ <;> rw [Joins.cell_of_block h] <;> rfl
theorem bud_free (h : w.heap[g]? = some (bud e t n p r en tot ow)) (i : Nat) : w.frozen? ⟨g, i, none⟩ = false := Joins.unfrozen_of_block h i
end
def beginC (p n en k : Int) : Int := if p < k ∨ en ≥ n then 3 else 0
def BeginPost (g : Nat) (e t n p : Int) (r : Nat) (en tot ow k : Int) (w : World) (x : Ending) (w' : World) : Prop :=
  x = .returned (.int .i64 (beginC p n en k)) ∧ w'.heap[g]? = some (if beginC p n en k = 0 then bud e t n p r (en + 1) tot 0 else bud e t n p r en tot ow) ∧ Only (· = g) w w'
theorem begin_any (g : Nat) (e t n p : Int) (r : Nat) (en tot ow k : Int) (w : World) (hb : w.heap[g]? = some (bud e t n p r en tot ow)) (h0 : 0 ≤ en) (h1 : en ≤ 1048576) :
    Calls Tryz.prog 72 #[.pointer (some ⟨g, 0, none⟩), .int .i64 k] w (BeginPost g e t n p r en tot ow k w) := by
  obtain ⟨c0, c1, c2, c3, c5, c6, c7⟩ := bud_cells hb
  have f5 := bud_free hb 5
  have f7 := bud_free hb 7
  have HB := Lib.hid hb
  clear hb c0 c1 c6
  by_cases d1 : p < k
  · have hB : beginC p n en k = 3 := by unfold beginC; rw [if_pos (Or.inl d1)]
    go_enter Tryz.func72, Tryz.ntmps72
    go_wp2_with fail
    go_quiet (fail)
    go_wp2_with fail
    go_ret
    unfold BeginPost
    rw [hB]
    exact ⟨rfl, HB.out, (Only.refl _ _).drewN _⟩
  · have d1' : decide (p < k) = false := by simpa using d1
    by_cases d2 : en ≥ n
    · have d2' : decide (en ≥ n) = true := by simpa using d2
      have hB : beginC p n en k = 3 := by unfold beginC; rw [if_pos (Or.inr d2)]
      go_enter Tryz.func72, Tryz.ntmps72
      go_wp2_with fail
      go_quiet (fail)
      go_wp2_with fail
      go_ret
      unfold BeginPost
      rw [hB]
      exact ⟨rfl, HB.out, (Only.refl _ _).drewN _⟩
    · have d2' : decide (en ≥ n) = false := by simpa using d2
      have hB : beginC p n en k = 0 := by unfold beginC; rw [if_neg (by omega)]
      go_enter Tryz.func72, Tryz.ntmps72
      go_wp2_with fail
      go_quiet (fail)
      go_wp2_with fail
      go_ret
      unfold BeginPost
      rw [hB]
      refine ⟨rfl, ?_, ?_⟩
      · exact Joins.block_setCell (Joins.block_setCell HB.out _) _
      · exact ((((Only.refl (· = g) _).drewN _).setCell (S := (· = g)) (p := ⟨g, 5, none⟩) (Or.inl rfl) _).setCell (S := (· = g)) (p := ⟨g, 7, none⟩) (Or.inl rfl) _)
theorem ret_int {k : IntKind} {a b : Int} (h : a = b) : Ending.returned (.int k a) = .returned (.int k b) := by rw [h]
def roomC (e t en tot ow : Int) : Int := if en = 0 then 0 else if e - ow < t - tot then e - ow else t - tot
theorem room_any (g : Nat) (e t n p : Int) (r : Nat) (en tot ow : Int) (w : World) (hb : w.heap[g]? = some (bud e t n p r en tot ow)) (he : 0 ≤ e ∧ e ≤ 1073741824) (ht : 0 ≤ t ∧ t ≤ 1073741824) (hto : 0 ≤ tot ∧ tot ≤ t) (how : 0 ≤ ow ∧ ow ≤ e) :
    Calls Tryz.prog 74 #[.pointer (some ⟨g, 0, none⟩)] w fun x w' => x = .returned (.int .i64 (roomC e t en tot ow)) ∧ ∃ m, w' = w.drewN m := by
  obtain ⟨c0, c1, c2, c3, c5, c6, c7⟩ := bud_cells hb
  clear hb
  by_cases d : en = 0
  · have d' : (en == 0) = true := by simpa using d
    have hR : roomC e t en tot ow = 0 := by unfold roomC; rw [if_pos d]
    clear d
    rw [hR]
    go_enter Tryz.func74, Tryz.ntmps74
    go_wp2_with fail
    go_ret
    exact ⟨rfl, 0, rfl⟩
  · have d' : (en == 0) = false := by simpa using d
    have hR : roomC e t en tot ow = if e - ow < t - tot then e - ow else t - tot := by unfold roomC; rw [if_neg d]
    clear d
    have m1 : IntKind.i64.wrap (e - ow) = e - ow := by rw [IntKind.wrap_i64]; omega
    have m2 : IntKind.i64.wrap (t - tot) = t - tot := by rw [IntKind.wrap_i64]; omega
    have HR := Lib.hid hR
    clear hR
    go_enter Tryz.func74, Tryz.ntmps74
    go_wp2_with fail
    go_quiet (fail)
    go_wp2_with fail
    all_goals go_ret
    all_goals exact ⟨ret_int (by rw [HR.out]; split <;> omega), _, rfl⟩
def dataC (e t en tot ow k : Int) : Int := if k < 0 then 1 else if k > roomC e t en tot ow then 3 else 0
def DataPost (g : Nat) (e t n p : Int) (r : Nat) (en tot ow k : Int) (w : World) (x : Ending) (w' : World) : Prop :=
  x = .returned (.int .i64 (dataC e t en tot ow k)) ∧ w'.heap[g]? = some (if dataC e t en tot ow k = 0 then bud e t n p r en (tot + k) (ow + k) else bud e t n p r en tot ow) ∧ Only (· = g) w w'
theorem roomC_le (e t en tot ow : Int) (ht : 0 ≤ t ∧ t ≤ 1073741824) (hto : 0 ≤ tot ∧ tot ≤ t) : roomC e t en tot ow ≤ 1073741824 := by unfold roomC; split; omega; split <;> omega
set_option maxHeartbeats 1000000 in
theorem data_any (g : Nat) (e t n p : Int) (r : Nat) (en tot ow k : Int) (w : World) (hb : w.heap[g]? = some (bud e t n p r en tot ow)) (he : 0 ≤ e ∧ e ≤ 1073741824) (ht : 0 ≤ t ∧ t ≤ 1073741824) (hto : 0 ≤ tot ∧ tot ≤ t) (how : 0 ≤ ow ∧ ow ≤ e) :
    Calls Tryz.prog 75 #[.pointer (some ⟨g, 0, none⟩), .int .i64 k] w (DataPost g e t n p r en tot ow k w) := by
  obtain ⟨c0, c1, c2, c3, c5, c6, c7⟩ := bud_cells hb
  have HC := Lib.hid (room_any g e t n p r en tot ow w hb he ht hto how)
  have HL := Lib.hid (roomC_le e t en tot ow ht hto)
  have f6 := bud_free hb 6
  have f7 := bud_free hb 7
  have HB := Lib.hid hb
  clear hb c0 c1 c2 c3 c5
  by_cases d1 : k < 0
  · have HD := Lib.hid (show dataC e t en tot ow k = 1 by unfold dataC; rw [if_pos d1])
    go_enter Tryz.func75, Tryz.ntmps75
    go_wp2_with fail
    go_ret
    unfold DataPost
    rw [HD.out]
    exact ⟨rfl, HB.out, Only.refl _ _⟩
  · have d1' : decide (k < 0) = false := by simpa using d1
    by_cases d2 : k > roomC e t en tot ow
    · have HD := Lib.hid (show dataC e t en tot ow k = 3 by unfold dataC; rw [if_neg d1, if_pos d2])
      go_enter Tryz.func75, Tryz.ntmps75
      go_wp2_with fail
      go_at_call 74
      refine HC.out.mono ?_
      rintro x w' ⟨rfl, m, rfl⟩
      go_wp2_with fail
      go_ret
      unfold DataPost
      rw [HD.out]
      exact ⟨rfl, HB.out, (Only.refl _ _).drewN _⟩
    · have d2' : decide (k > roomC e t en tot ow) = false := by simpa using d2
      have HD := Lib.hid (show dataC e t en tot ow k = 0 by unfold dataC; rw [if_neg d1, if_neg d2])
      have m1 : IntKind.i64.wrap (ow + k) = ow + k := by have := HL.out; rw [IntKind.wrap_i64]; omega
      have m2 : IntKind.i64.wrap (tot + k) = tot + k := by have := HL.out; rw [IntKind.wrap_i64]; omega
      go_enter Tryz.func75, Tryz.ntmps75
      go_wp2_with fail
      go_at_call 74
      refine HC.out.mono ?_
      rintro x w' ⟨rfl, m, rfl⟩
      go_wp2_with fail
      go_region
      go_wp2_with fail
      go_ret
      unfold DataPost
      rw [HD.out]
      refine ⟨rfl, ?_, ?_⟩
      · exact Joins.block_setCell (w := (w.drewN (m + 1)).setCell ⟨g, 7, none⟩ (.int .i64 (ow + k))) (Joins.block_setCell (w := w.drewN (m + 1)) HB.out _) _
      · exact ((((Only.refl (· = g) _).drewN _).setCell (S := (· = g)) (p := ⟨g, 7, none⟩) (Or.inl rfl) _).setCell (S := (· = g)) (p := ⟨g, 6, none⟩) (Or.inl rfl) _)
end Go.Proofs.YtpghionmmlidnaaGreatDoor.Bud
