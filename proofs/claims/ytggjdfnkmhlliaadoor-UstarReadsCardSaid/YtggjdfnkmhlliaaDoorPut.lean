/- Contract of Put. -/
import Derived.Test.YtggjdfnkmhlliaaDoorPutAt
import Derived.Deep.MidRow
import Derived.Deep.WholeRow
namespace Go.Proofs.YtggjdfnkmhlliaaDoor.Walks
open Go Go.RowKit Go.Proofs.YtggjdfnkmhlliaaDoor.Aid Go.Proofs.YtggjdfnkmhlliaaDoor.Own Go.Proofs.YtggjdfnkmhlliaaDoorW.PrintWords

def posP (i : Nat) : Nat := [100, 108, 116, 124, 136, 329, 337].getD i 0
def lenP (i : Nat) : Nat := [8, 8, 8, 12, 12, 8, 8].getD i 0
def numP (H : Hdr) (i : Nat) : Int := [H.mode, H.uid, H.gid, H.size, H.time, 0, 0].getD i 0
/-- The texts, the magic and the type. -/
def body0 (H : Hdr) : Str := putAt (putAt (putAt (putAt (putAt (putAt (putAt (List.replicate 512 0) 0 H.name) 157 H.target) 257 magic) 265 H.user) 297 H.group) 345 H.pre) 156 [H.type]
def octTo (H : Hdr) : Nat → Str
  | 0 => body0 H
  | i + 1 => putAt (octTo H i) (posP i) (putOct (numP H i) (lenP i)).1
def bodyP (H : Hdr) : Str := putAt (octTo H 7) 148 ((putOct (sumOf (octTo H 7)) 7).1 ++ [32])
def fitAll (H : Hdr) : Bool := fitB H.name 100 && fitB H.pre 155 && fitB H.target 100 && fitB H.user 32 && fitB H.group 32
def numAll (H : Hdr) : Bool := (List.range 7).all fun i => decide ((putOct (numP H i) (lenP i)).2 = 0)
def putL (H : Hdr) : Str × Int := if fitAll H = true then if numAll H = true then (bodyP H, 0) else ([], 7) else ([], 1)
def PutPost (H : Hdr) (w : World) (x : Ending) (w' : World) : Prop := ∃ A n c, x = .returned (.tuple #[.slice A n c, .int .i64 (putL H).2]) ∧ (putL H).1.length = n ∧ n ≤ c ∧ RdU w' A (putL H).1 ∧ Only (fun _ => False) w w'
/-- A header whose texts are of at most 1,000 bytes, its numbers within an int's bounds. -/
structure HOk (H : Hdr) : Prop where
  name : H.name.length ≤ 1000
  pre : H.pre.length ≤ 1000
  target : H.target.length ≤ 1000
  user : H.user.length ≤ 1000
  group : H.group.length ≤ 1000
  mode : -9223372036854775808 ≤ H.mode ∧ H.mode ≤ 9223372036854775807
  uid : -9223372036854775808 ≤ H.uid ∧ H.uid ≤ 9223372036854775807
  gid : -9223372036854775808 ≤ H.gid ∧ H.gid ≤ 9223372036854775807
  size : -9223372036854775808 ≤ H.size ∧ H.size ≤ 9223372036854775807
  time : -9223372036854775808 ≤ H.time ∧ H.time ≤ 9223372036854775807
theorem fit_len {l : Str} {n : Nat} (h : fitB l n = true) : l.length ≤ n := by
  unfold fitB at h
  rw [Bool.and_eq_true] at h
  exact of_decide_eq_true h.1
theorem replicate_ints (n : Nat) : ints (List.replicate n 0) = List.replicate n 0 := by unfold ints; rw [List.map_replicate]; rfl
theorem fits_lit (l : Str) (n : Nat) (m : Int) (w : World) (hm : (n : Int) = m) (hl : l.length ≤ 1000000) : Calls Tryd.prog 30 #[.string (B l), .int .i64 m] w fun x w' => x = .returned (.bool (fitB l n)) ∧ w = w' := by
  subst hm
  exact fits_any l n w hl
theorem nil_post {H : Hdr} {w w' : World} {x : Ending} {e : Int} (h : putL H = ([], e)) (hx : x = .returned (.tuple #[.slice none 0 0, .int .i64 e])) (ho : Only (fun _ => False) w w') : PutPost H w x w' :=
  ⟨none, 0, 0, by rw [hx, h], by rw [h]; rfl, Nat.le_refl _, by rw [h]; exact fun h0 => absurd h0 (Nat.lt_irrefl 0), ho⟩
theorem field_at {w : World} {g L c : Nat} (a n : Nat) (hc : L ≤ c) (h : a + n ≤ L) (h2 : L ≤ 1000000) (h3 : 0 < n) : Calls Tryd.prog 23 #[.slice (some ⟨g, 0, none⟩) L c, .int .i64 (a : Int), .int .i64 (n : Int)] w fun e w' => e = .returned (.slice (some ⟨g, a, none⟩) n n) ∧ w' = w := by
  have := field_any (w := w) (ad := ⟨g, 0, none⟩) a n hc h h2 h3
  rw [add_flat, Nat.zero_add] at this
  exact this
def tab7 (H : Hdr) : Array Value := #[.int .i64 100, .int .i64 8, .int .i64 H.mode, .int .i64 108, .int .i64 8, .int .i64 H.uid, .int .i64 116, .int .i64 8, .int .i64 H.gid, .int .i64 124, .int .i64 12, .int .i64 H.size, .int .i64 136, .int .i64 12, .int .i64 H.time, .int .i64 329, .int .i64 8, .int .i64 0, .int .i64 337, .int .i64 8, .int .i64 0]
theorem three_at {a b c : Value} {P : Nat → Value → Prop} (ha : P 0 a) (hb : P 1 b) (hc : P 2 c) : ∀ j v, [a, b, c][j]? = some v → P j v := fun j v h => by
  match j, h with
  | 0, h => injection h with h; rw [← h]; exact ha
  | 1, h => injection h with h; rw [← h]; exact hb
  | 2, h => injection h with h; rw [← h]; exact hc
theorem tab7_at (H : Hdr) (hH : HOk H) {i : Nat} (h : i < 7) : (∀ j v, [Value.int .i64 (posP i : Int), .int .i64 (lenP i : Int), .int .i64 (numP H i)][j]? = some v → (tab7 H)[i * 3 + j]? = some v) ∧ posP i + lenP i ≤ 512 ∧ (2 ≤ lenP i ∧ lenP i ≤ 12) ∧ (-9223372036854775808 ≤ numP H i ∧ numP H i ≤ 9223372036854775807) ∧ 100 ≤ posP i := by
  have k0 : -9223372036854775808 ≤ (0 : Int) ∧ (0 : Int) ≤ 9223372036854775807 := by decide
  rcases (show i = 0 ∨ i = 1 ∨ i = 2 ∨ i = 3 ∨ i = 4 ∨ i = 5 ∨ i = 6 by omega) with rfl | rfl | rfl | rfl | rfl | rfl | rfl
  · exact ⟨three_at rfl rfl rfl, by decide, by decide, hH.mode, by decide⟩
  · exact ⟨three_at rfl rfl rfl, by decide, by decide, hH.uid, by decide⟩
  · exact ⟨three_at rfl rfl rfl, by decide, by decide, hH.gid, by decide⟩
  · exact ⟨three_at rfl rfl rfl, by decide, by decide, hH.size, by decide⟩
  · exact ⟨three_at rfl rfl rfl, by decide, by decide, hH.time, by decide⟩
  · exact ⟨three_at rfl rfl rfl, by decide, by decide, k0, by decide⟩
  · exact ⟨three_at rfl rfl rfl, by decide, by decide, k0, by decide⟩
theorem putOct_len (v : Int) (n : Nat) : (putOct v n).2 = 0 → (putOct v n).1.length = n := by
  unfold putOct
  intro h
  split at h
  · exact absurd h (by decide)
  split at h
  · exact absurd h (by decide)
  rename_i c1 c2
  rw [if_neg c1, if_neg c2]
  split at h
  · rename_i c3
    rw [if_pos c3, List.length_append, low_len, List.length_singleton]; omega
  split at h
  · rename_i c3 c4
    rw [if_neg c3, if_pos c4, List.length_cons, low_len]; omega
  · exact absurd h (by decide)
theorem sumOf_in {l : Str} (h : l.length = 512) : 0 ≤ sumOf l ∧ sumOf l ≤ 130560 := by
  have := sumTo_le l 512
  unfold sumOf
  rw [if_pos h]
  omega
theorem putOct_sum {z : Int} (h0 : 0 ≤ z) (h1 : z ≤ 130560) : (putOct z 7).1.length = 7 := by
  unfold putOct
  rw [if_neg (by omega), if_neg (by omega)]
  have e : z.toNat / 8 ^ ((7 : Int).toNat - 1) = 0 := Nat.div_eq_of_lt (by show z.toNat < 262144; omega)
  rw [if_pos e, List.length_append, low_len]; rfl
theorem own_rdu {base : Nat} {w : World} {A : Option Addr} {n c : Nat} {l : Str} (h : Own base w (.slice A n c) (ints l)) : RdU w A l := by
  obtain ⟨A', c', e, hR⟩ := h.rd
  injection e with e1 _ _
  subst e1
  exact hR
theorem size61 : (Tryd.prog.info? 61).map (·.size) = some 3 := by kernel_rfl
theorem zero61 (w : World) : (zeroValue 61).run Tryd.prog w = .ok (.agg #[.int .i64 0, .int .i64 0, .int .i64 0]) w := by kernel_rfl
set_option maxRecDepth 100000 in
set_option maxHeartbeats 4000000 in
theorem put_any {H : Hdr} (w : World) (hH : HOk H) : Calls Tryd.prog 16 #[hval H] w (PutPost H w) := by
  have HH := Lib.hid hH
  have HO := Lib.hid ((Only.refl (fun _ => False) w).alloc (.cells (hrow H) 24))
  have hb := alloc_new w (.cells (hrow H) 24)
  obtain ⟨g1, hg1⟩ : ∃ g1, w.heap.size = g1 := ⟨_, rfl⟩
  obtain ⟨W, hW⟩ : ∃ W, w.alloc (.cells (hrow H) 24) = W := ⟨_, rfl⟩
  rw [hW, hg1] at hb
  rw [hW] at HO
  have HB := Lib.hid hb
  have HGW := Lib.hid (And.intro hg1 hW)
  have c0 : W.cell? ⟨g1, 0, none⟩ = some (.string (B H.name)) := Joins.cell_of_block hb 0
  have c1 : W.cell? ⟨g1, 1, none⟩ = some (.string (B H.pre)) := Joins.cell_of_block hb 1
  have c2 : W.cell? ⟨g1, 2, none⟩ = some (.string (B H.target)) := Joins.cell_of_block hb 2
  have c9 : W.cell? ⟨g1, 9, none⟩ = some (.string (B H.user)) := Joins.cell_of_block hb 9
  have c10 : W.cell? ⟨g1, 10, none⟩ = some (.string (B H.group)) := Joins.cell_of_block hb 10
  have HF := Lib.hid (show fitAll H = (fitB H.name 100 && fitB H.pre 155 && fitB H.target 100 && fitB H.user 32 && fitB H.group 32) from rfl)
  have K1 := Lib.hid (fits_lit H.name 100 100 W rfl (by have := hH.name; omega))
  have K2 := Lib.hid (fits_lit H.pre 155 155 W rfl (by have := hH.pre; omega))
  have K3 := Lib.hid (fits_lit H.target 100 100 W rfl (by have := hH.target; omega))
  have K4 := Lib.hid (fits_lit H.user 32 32 W rfl (by have := hH.user; omega))
  have K5 := Lib.hid (fits_lit H.group 32 32 W rfl (by have := hH.group; omega))
  have HL := Lib.hid (show (fitB H.name 100 = true → H.name.length ≤ 100) ∧ (fitB H.pre 155 = true → H.pre.length ≤ 155) ∧ (fitB H.target 100 = true → H.target.length ≤ 100) ∧ (fitB H.user 32 = true → H.user.length ≤ 32) ∧ (fitB H.group 32 = true → H.group.length ≤ 32) from ⟨fit_len, fit_len, fit_len, fit_len, fit_len⟩)
  obtain ⟨f1, hf1⟩ : ∃ f1, fitB H.name 100 = f1 := ⟨_, rfl⟩
  obtain ⟨f2, hf2⟩ : ∃ f2, fitB H.pre 155 = f2 := ⟨_, rfl⟩
  obtain ⟨f3, hf3⟩ : ∃ f3, fitB H.target 100 = f3 := ⟨_, rfl⟩
  obtain ⟨f4, hf4⟩ : ∃ f4, fitB H.user 32 = f4 := ⟨_, rfl⟩
  obtain ⟨f5, hf5⟩ : ∃ f5, fitB H.group 32 = f5 := ⟨_, rfl⟩
  rw [hf1] at HF K1 HL
  rw [hf2] at HF K2 HL
  rw [hf3] at HF K3 HL
  rw [hf4] at HF K4 HL
  rw [hf5] at HF K5 HL
  clear hf1 hf2 hf3 hf4 hf5 hg1 hW hb hH
  go_enter Tryd.func16, Tryd.ntmps16
  go_upto_region 1 with (fail)
  change Code.wp Tryd.prog _ _ _ (w.alloc (.cells (hrow H) 24))
  rw [HGW.out.2, HGW.out.1]
  by_cases c : (f1 && f2 && f3 && f4 && f5) = true
  · have HF2 := Lib.hid (HF.out.trans c)
    simp only [Bool.and_eq_true] at c
    obtain ⟨⟨⟨⟨rfl, rfl⟩, rfl⟩, rfl⟩, rfl⟩ := c
    go_upto_region 4 with (first
      | (go_at_call 30; (with_reducible refine K1.out.mono ?_); rintro x w1 ⟨rfl, rfl⟩)
      | (go_at_call 30; (with_reducible refine K2.out.mono ?_); rintro x w1 ⟨rfl, rfl⟩)
      | (go_at_call 30; (with_reducible refine K3.out.mono ?_); rintro x w1 ⟨rfl, rfl⟩)
      | (go_at_call 30; (with_reducible refine K4.out.mono ?_); rintro x w1 ⟨rfl, rfl⟩)
      | (go_at_call 30; (with_reducible refine K5.out.mono ?_); rintro x w1 ⟨rfl, rfl⟩)
      | (with_reducible refine gate 39 rfl ?_
         refine own_make (base := W.heap.size) (w0 := W) rfl rfl (.const (.int .i64 512)) rfl 512 rfl (Below.refl _ _) (Nat.le_refl _) (by decide) ?_
         intro v1 w1 hV1 hB1
         obtain ⟨g, cap, rfl, hg⟩ := hV1.form (by rw [List.length_replicate]; decide)
         have HOw := Lib.hid (show Own W.heap.size w1 (.slice (some ⟨g, 0, none⟩) 512 cap) (ints (List.replicate 512 0)) by rw [replicate_ints]; rw [List.length_replicate] at hV1; exact hV1)
         have HBe := Lib.hid hB1
         have HG := Lib.hid hg
         clear hV1 hB1 hg))
    have HC := Lib.hid (show 512 ≤ cap from (own_capn HOw.out).2)
    obtain ⟨n1, n2, n3, n4, n5⟩ := HL.out
    have L1 := Lib.hid (n1 trivial)
    have L2 := Lib.hid (n2 trivial)
    have L3 := Lib.hid (n3 trivial)
    have L4 := Lib.hid (n4 trivial)
    have L5 := Lib.hid (n5 trivial)
    clear n1 n2 n3 n4 n5 K1 K2 K3 K4 K5 HL HF
    have HI := Lib.hid (And.intro c0 (And.intro c1 (And.intro c2 (And.intro c9 c10))))
    clear c0 c1 c2 c9 c10
    obtain ⟨T0, hT0⟩ : ∃ T0 : Str, List.replicate 512 0 = T0 := ⟨_, rfl⟩
    have HT0 := Lib.hid hT0
    have HN0 := Lib.hid (show T0.length = 512 by rw [← hT0, List.length_replicate])
    rw [hT0] at HOw
    clear hT0
    have HG1 := Lib.hid (show g1 < W.heap.size from Only.heap_lt HB.out)
    have cc := HBe.out.cell (show (⟨g1, 0, none⟩ : Addr).block < W.heap.size from HG1.out)
    rw [HI.out.1] at cc
    go_upto_region 4 with (fail)
    go_still_tail 4, (by kernel_rfl)
    change wpStill _ _ w1.drew _ _ _
    still_call (field_at (g := g) (L := 512) (c := cap) _ _ HC.out (by decide) (by decide) (by decide))
    repeat still_step
    refine wpStill_nil ?_
    change wpList _ _ _ _ _ w1.drew
    refine copy_put rfl (.tmp 41) (.tmp 43) rfl rfl H.name rfl L1.out HN0.out (Own.only HOw.out ((Only.refl _ w1).drew)) (by have := L1.out; omega) ?_
    intro w2 hO2 hN2
    have HB2 := Lib.hid (HBe.out.drew.trans (hN2.below (B := W.heap.size) (by have := HBe.out.size; simpa using this) (fun k hk => by rw [hk]; exact HG.out)))
    obtain ⟨T1, hT1⟩ : ∃ T1, putAt T0 0 H.name = T1 := ⟨_, rfl⟩
    have HT1 := Lib.hid hT1
    have HN1 := Lib.hid (show T1.length = 512 by rw [← hT1, putAt_len (by have := L1.out; have := HN0.out; omega), HN0.out])
    rw [hT1] at hO2
    replace HOw := Lib.hid hO2
    replace HBe := HB2
    clear hT1 hO2 hN2 HB2 cc
    clear w1
    have cc := HBe.out.cell (show (⟨g1, 2, none⟩ : Addr).block < W.heap.size from HG1.out)
    rw [HI.out.2.2.1] at cc
    go_upto_region 5 with (fail)
    go_still_tail 4, (by kernel_rfl)
    change wpStill _ _ w2.drew _ _ _
    still_call (field_at (g := g) (L := 512) (c := cap) _ _ HC.out (by decide) (by decide) (by decide))
    repeat still_step
    refine wpStill_nil ?_
    change wpList _ _ _ _ _ w2.drew
    refine copy_put rfl (.tmp 46) (.tmp 48) rfl rfl H.target rfl L3.out HN1.out (Own.only HOw.out ((Only.refl _ w2).drew)) (by have := L3.out; omega) ?_
    intro w3 hO2 hN2
    have HB2 := Lib.hid (HBe.out.drew.trans (hN2.below (B := W.heap.size) (by have := HBe.out.size; simpa using this) (fun k hk => by rw [hk]; exact HG.out)))
    obtain ⟨T2, hT2⟩ : ∃ T2, putAt T1 157 H.target = T2 := ⟨_, rfl⟩
    have HT2 := Lib.hid hT2
    have HN2 := Lib.hid (show T2.length = 512 by rw [← hT2, putAt_len (by have := L3.out; have := HN1.out; omega), HN1.out])
    rw [hT2] at hO2
    replace HOw := Lib.hid hO2
    replace HBe := HB2
    clear hT2 hO2 hN2 HB2 cc
    clear w2
    have LM := Lib.hid (show magic.length ≤ 8 by decide)
    go_upto_region 7 with (first
      | (go_at_call 23; refine (field_at (g := g) (L := 512) (c := cap) _ _ HC.out (by decide) (by decide) (by decide)).mono ?_; rintro x w1 ⟨rfl, rfl⟩)
      | (with_reducible refine gate 52 rfl ?_
         refine copy_put rfl (.tmp 51) (.const (.string ⟨#[117, 115, 116, 97, 114, 0, 48, 48]⟩)) rfl rfl magic rfl LM.out HN2.out HOw.out (by have := LM.out; omega) ?_
         intro w4 hO2 hN2))
    have HB2 := Lib.hid (HBe.out.trans (hN2.below (B := W.heap.size) HBe.out.size (fun k hk => by rw [hk]; exact HG.out)))
    obtain ⟨T3, hT3⟩ : ∃ T3, putAt T2 257 magic = T3 := ⟨_, rfl⟩
    have HT3 := Lib.hid hT3
    have HN3 := Lib.hid (show T3.length = 512 by rw [← hT3, putAt_len (by have := LM.out; have := HN2.out; omega), HN2.out])
    rw [hT3] at hO2
    replace HOw := Lib.hid hO2
    replace HBe := HB2
    clear hT3 hO2 hN2 HB2
    have cc := HBe.out.cell (show (⟨g1, 9, none⟩ : Addr).block < W.heap.size from HG1.out)
    rw [HI.out.2.2.2.1] at cc
    go_upto_region 7 with (fail)
    go_still_tail 4, (by kernel_rfl)
    change wpStill _ _ w4.drew _ _ _
    still_call (field_at (g := g) (L := 512) (c := cap) _ _ HC.out (by decide) (by decide) (by decide))
    repeat still_step
    refine wpStill_nil ?_
    change wpList _ _ _ _ _ w4.drew
    refine copy_put rfl (.tmp 54) (.tmp 56) rfl rfl H.user rfl L4.out HN3.out (Own.only HOw.out ((Only.refl _ w4).drew)) (by have := L4.out; omega) ?_
    intro w5 hO2 hN2
    have HB2 := Lib.hid (HBe.out.drew.trans (hN2.below (B := W.heap.size) (by have := HBe.out.size; simpa using this) (fun k hk => by rw [hk]; exact HG.out)))
    obtain ⟨T4, hT4⟩ : ∃ T4, putAt T3 265 H.user = T4 := ⟨_, rfl⟩
    have HT4 := Lib.hid hT4
    have HN4 := Lib.hid (show T4.length = 512 by rw [← hT4, putAt_len (by have := L4.out; have := HN3.out; omega), HN3.out])
    rw [hT4] at hO2
    replace HOw := Lib.hid hO2
    replace HBe := HB2
    clear hT4 hO2 hN2 HB2 cc
    clear w4
    have cc := HBe.out.cell (show (⟨g1, 10, none⟩ : Addr).block < W.heap.size from HG1.out)
    rw [HI.out.2.2.2.2] at cc
    go_upto_region 8 with (fail)
    go_still_tail 4, (by kernel_rfl)
    change wpStill _ _ w5.drew _ _ _
    still_call (field_at (g := g) (L := 512) (c := cap) _ _ HC.out (by decide) (by decide) (by decide))
    repeat still_step
    refine wpStill_nil ?_
    change wpList _ _ _ _ _ w5.drew
    refine copy_put rfl (.tmp 59) (.tmp 61) rfl rfl H.group rfl L5.out HN4.out (Own.only HOw.out ((Only.refl _ w5).drew)) (by have := L5.out; omega) ?_
    intro w6 hO2 hN2
    have HB2 := Lib.hid (HBe.out.drew.trans (hN2.below (B := W.heap.size) (by have := HBe.out.size; simpa using this) (fun k hk => by rw [hk]; exact HG.out)))
    obtain ⟨T5, hT5⟩ : ∃ T5, putAt T4 297 H.group = T5 := ⟨_, rfl⟩
    have HT5 := Lib.hid hT5
    have HN5 := Lib.hid (show T5.length = 512 by rw [← hT5, putAt_len (by have := L5.out; have := HN4.out; omega), HN4.out])
    rw [hT5] at hO2
    replace HOw := Lib.hid hO2
    replace HBe := HB2
    clear hT5 hO2 hN2 HB2 cc
    clear w5
    have cc := HBe.out.cell (show (⟨g1, 1, none⟩ : Addr).block < W.heap.size from HG1.out)
    rw [HI.out.2.1] at cc
    go_upto_region 9 with (fail)
    go_still_tail 4, (by kernel_rfl)
    change wpStill _ _ w6.drew _ _ _
    still_call (field_at (g := g) (L := 512) (c := cap) _ _ HC.out (by decide) (by decide) (by decide))
    repeat still_step
    refine wpStill_nil ?_
    change wpList _ _ _ _ _ w6.drew
    refine copy_put rfl (.tmp 64) (.tmp 66) rfl rfl H.pre rfl L2.out HN5.out (Own.only HOw.out ((Only.refl _ w6).drew)) (by have := L2.out; omega) ?_
    intro w7 hO2 hN2
    have HB2 := Lib.hid (HBe.out.drew.trans (hN2.below (B := W.heap.size) (by have := HBe.out.size; simpa using this) (fun k hk => by rw [hk]; exact HG.out)))
    obtain ⟨T6, hT6⟩ : ∃ T6, putAt T5 345 H.pre = T6 := ⟨_, rfl⟩
    have HT6 := Lib.hid hT6
    have HN6 := Lib.hid (show T6.length = 512 by rw [← hT6, putAt_len (by have := L2.out; have := HN5.out; omega), HN5.out])
    rw [hT6] at hO2
    replace HOw := Lib.hid hO2
    replace HBe := HB2
    clear hT6 hO2 hN2 HB2 cc
    clear w6
    have hb := (HBe.out.block g1 HG1.out).trans HB.out
    have c3 : w7.cell? ⟨g1, 3, none⟩ = some (.int .i64 H.mode) := Joins.cell_of_block hb 3
    have c4 : w7.cell? ⟨g1, 4, none⟩ = some (.int .i64 H.uid) := Joins.cell_of_block hb 4
    have c5 : w7.cell? ⟨g1, 5, none⟩ = some (.int .i64 H.gid) := Joins.cell_of_block hb 5
    have c6 : w7.cell? ⟨g1, 6, none⟩ = some (.int .i64 H.size) := Joins.cell_of_block hb 6
    have c7 : w7.cell? ⟨g1, 7, none⟩ = some (.int .i64 H.time) := Joins.cell_of_block hb 7
    have c8 : w7.cell? ⟨g1, 8, none⟩ = some (.int .u8 (H.type.toNat : Int)) := Joins.cell_of_block hb 8
    have hne := Lib.hid (show g1 ≠ g by have := HG1.out; have := HG.out; omega)
    have c156 := Own.cell HOw.out (j := 156) (by rw [ints_len, HN6.out]; decide)
    have f156 := Own.frozen HOw.out (j := 156) (by decide)
    obtain ⟨y, hy⟩ : ∃ y, (ints T6).getD 156 0 = y := ⟨_, rfl⟩
    rw [hy] at c156
    clear hy hb
    have hq : (156 : Int) < 512 := by decide
    go_upto_region 11 with (fail)
    have hO2 := Own.putn HOw.out 156 (H.type.toNat : Int)
    rw [show (ints T6).set 156 (H.type.toNat : Int) = ints (putAt T6 156 [H.type]) from set_putAt (by have := HN6.out; omega)] at hO2
    have HB2 := Lib.hid (HBe.out.setCell (p := ⟨g, 156, none⟩) HG.out (.int .u8 (H.type.toNat : Int)))
    obtain ⟨U, hU⟩ : ∃ U, w7.setCell ⟨g, 156, none⟩ (.int .u8 (H.type.toNat : Int)) = U := ⟨_, rfl⟩
    rw [hU] at hO2 HB2 ⊢
    obtain ⟨T7, hT7⟩ : ∃ T7, putAt T6 156 [H.type] = T7 := ⟨_, rfl⟩
    have HT7 := Lib.hid hT7
    have HN7 := Lib.hid (show T7.length = 512 by rw [← hT7, putAt_len (by rw [HN6.out]; simp), HN6.out])
    rw [hT7] at hO2
    have HBO := Lib.hid (show T7 = body0 H by rw [← HT7.out, ← HT6.out, ← HT5.out, ← HT4.out, ← HT3.out, ← HT2.out, ← HT1.out, ← HT0.out]; rfl)
    replace HOw := Lib.hid hO2
    replace HBe := HB2
    clear hT7 hO2 HB2 hU c3 c4 c5 c6 c7 c8 f156 c156 hq
    clear HT0 HT1 HT2 HT3 HT4 HT5 HT6 HT7 HN0 HN1 HN2 HN3 HN4 HN5 HN6
    clear w7 T0 T1 T2 T3 T4 T5 T6
    have hb := (HBe.out.block g1 HG1.out).trans HB.out
    have c3 : U.cell? ⟨g1, 3, none⟩ = some (.int .i64 H.mode) := Joins.cell_of_block hb 3
    have c4 : U.cell? ⟨g1, 4, none⟩ = some (.int .i64 H.uid) := Joins.cell_of_block hb 4
    have c5 : U.cell? ⟨g1, 5, none⟩ = some (.int .i64 H.gid) := Joins.cell_of_block hb 5
    have c6 : U.cell? ⟨g1, 6, none⟩ = some (.int .i64 H.size) := Joins.cell_of_block hb 6
    have c7 : U.cell? ⟨g1, 7, none⟩ = some (.int .i64 H.time) := Joins.cell_of_block hb 7
    clear hb
    go_wp2_with fail
    change Code.wp Tryd.prog _ _ _ (U.alloc (.cells (tab7 H) 61))
    have HTab := Lib.hid (alloc_new U (.cells (tab7 H) 61))
    have HO2 := Lib.hid (show Own W.heap.size (U.alloc (.cells (tab7 H) 61)) (.slice (some ⟨g, 0, none⟩) 512 cap) (ints T7) from Own.only HOw.out ((Only.refl _ U).alloc _))
    have HB2 := Lib.hid (HBe.out.alloc HBe.out.size (.cells (tab7 H) 61))
    have HGT := Lib.hid (show U.heap.size ≠ g from fun e => by
      have := World.block_lt_of_cell? U _ (Own.cell HOw.out (j := 0) (by rw [ints_len, HN7.out]; decide))
      rw [e] at this
      exact absurd this (Nat.lt_irrefl _))
    have HGU := Lib.hid (show W.heap.size ≤ U.heap.size from HBe.out.size)
    obtain ⟨V, hV⟩ : ∃ V, U.alloc (.cells (tab7 H) 61) = V := ⟨_, rfl⟩
    obtain ⟨gt, hgt⟩ : ∃ gt, U.heap.size = gt := ⟨_, rfl⟩
    rw [hV, hgt] at HTab ⊢
    rw [hV] at HO2 HB2
    rw [hgt] at HGT HGU
    clear HOw HBe c3 c4 c5 c6 c7 hV hgt
    clear U
    go_loopw [91] (fun v91 u => ∃ (i : Nat) (T : Str), v91 = .int .i64 (i : Int) ∧ i ≤ 7 ∧ Hid (T = octTo H i) ∧ Hid (T.length = 512) ∧ Hid (Own W.heap.size u (.slice (some ⟨g, 0, none⟩) 512 cap) (ints T)) ∧ Hid (Below W.heap.size W u) ∧ Hid (u.heap[gt]? = some (.cells (tab7 H) 61 (0, 0))) ∧ Hid (∀ j, j < i → (putOct (numP H j) (lenP j)).2 = 0)) (fun i _ => 7 - (intOf i).toNat)
    case atStart => exact ⟨0, T7, rfl, by decide, HBO, HN7, HO2, HB2, HTab, Lib.hid (fun j h => absurd h (by omega))⟩
    case round =>
      clear HO2 HB2 HTab HBO HN7
      obtain ⟨i, T, rfl, hi, HT, HN, HOw, HBe, HTb, HER⟩ := hrel
      by_cases c5 : i < 7
      · have d5 : decide ((i : Int) < 7) = true := decide_eq_true (by omega)
        have d6 : (i : Int) < 7 := by omega
        obtain ⟨hr1, hr2, hr3, hr4, hr5⟩ := tab7_at H HH.out c5
        have k1 : wr.cell? ⟨gt, i * 3, none⟩ = some (.int .i64 (posP i : Int)) := (Joins.cell_of_block HTb.out (i * 3)).trans (hr1 0 _ rfl)
        have k2 : wr.cell? ⟨gt, i * 3 + 1, none⟩ = some (.int .i64 (lenP i : Int)) := (Joins.cell_of_block HTb.out (i * 3 + 1)).trans (hr1 1 _ rfl)
        have k3 : wr.cell? ⟨gt, i * 3 + 2, none⟩ = some (.int .i64 (numP H i)) := (Joins.cell_of_block HTb.out (i * 3 + 2)).trans (hr1 2 _ rfl)
        have HP := Lib.hid (fun u => putOctal_any (numP H i) (lenP i) hr4.1 hr4.2 (by omega) (by omega) u)
        have HQ := Lib.hid (putOct_len (numP H i) (lenP i))
        have HE := Lib.hid (show octTo H (i + 1) = putAt (octTo H i) (posP i) (putOct (numP H i) (lenP i)).1 from rfl)
        have HER2 := Lib.hid (show (putOct (numP H i) (lenP i)).2 = 0 → ∀ j, j < i + 1 → (putOct (numP H j) (lenP j)).2 = 0 from fun e0 j hj => by
          by_cases e : j = i
          · rw [e]; exact e0
          · exact HER.out j (by omega))
        have HNO := Lib.hid (show (putOct (numP H i) (lenP i)).2 ≠ 0 → putL H = ([], 7) from fun e0 => by
          unfold putL
          rw [if_pos HF2.out, if_neg (show ¬ numAll H = true from fun h => e0 (of_decide_eq_true (List.all_eq_true.1 (show (List.range 7).all (fun j => decide ((putOct (numP H j) (lenP j)).2 = 0)) = true from h) i (List.mem_range.2 c5))))])
        obtain ⟨p, hp⟩ : ∃ p, posP i = p := ⟨_, rfl⟩
        obtain ⟨q, hq⟩ : ∃ q, lenP i = q := ⟨_, rfl⟩
        obtain ⟨v, hv⟩ : ∃ v, numP H i = v := ⟨_, rfl⟩
        rw [hp] at k1 HE hr2
        rw [hq] at k2 HP HQ HE HER2 HNO hr2 hr3
        rw [hv] at k3 HP HQ HE HER2 HNO
        have HPO := Lib.hid (show ∀ u, Calls Tryd.prog 31 #[.int .i64 v, .int .i64 (q : Int)] u fun x u' => x = .returned (.tuple #[.string (B (putOct v q).1), .int .i64 (putOct v q).2]) ∧ Only (fun _ => False) u u' from fun u => HP.out u)
        obtain ⟨s, hs⟩ : ∃ s, (putOct v q).1 = s := ⟨_, rfl⟩
        obtain ⟨e, he⟩ : ∃ e, (putOct v q).2 = e := ⟨_, rfl⟩
        rw [hs, he] at HPO HQ
        rw [hs] at HE
        rw [he] at HER2 HNO
        clear HP hp hq hv hs he hr1 hr4 HER
        have hz := zero61
        have HON := Lib.hid (show Only (fun _ => False) w (wr.alloc (.cells #[.int .i64 (p : Int), .int .i64 (q : Int), .int .i64 v] 61)) from (HO.out.trans (Only.of_below HBe.out (fun _ => False)) (fun _ hk => hk.elim)).alloc _)
        by_cases c6 : e = 0
        · have d7 : (e != 0) = false := by rw [c6]; rfl
          have HSL := Lib.hid (HQ.out c6)
          replace HER2 := Lib.hid (HER2.out c6)
          have HR2 := Lib.hid hr2
          have HR3 := Lib.hid (show 0 < q by omega)
          clear c6 hr2 hr3 HNO HQ
          go_wp2_with (first
            | (go_at_call 31; (with_reducible refine (HPO.out _).mono ?_); rintro x u1 ⟨rfl, hO3⟩
               have hb9 := hO3.keeps (alloc_new wr (.cells #[.int .i64 (p : Int), .int .i64 (q : Int), .int .i64 v] 61)) id
               have x0 : u1.cell? ⟨wr.heap.size, 0, none⟩ = some (.int .i64 (p : Int)) := Joins.cell_of_block hb9 0
               have x1 : u1.cell? ⟨wr.heap.size, 1, none⟩ = some (.int .i64 (q : Int)) := Joins.cell_of_block hb9 1
               have HU := Lib.hid (((Only.refl (fun _ => False) wr).alloc (.cells #[.int .i64 (p : Int), .int .i64 (q : Int), .int .i64 v] 61)).trans' hO3)
               clear hb9 hO3)
            | (go_at_call 23; refine (field_at (g := g) (L := 512) (c := cap) _ _ HC.out HR2.out (by decide) HR3.out).mono ?_; rintro x u2 ⟨rfl, rfl⟩)
            | (with_reducible refine gate 112 rfl ?_
               refine copy_put rfl (.tmp 110) (.tmp 111) rfl rfl s rfl (by have := HSL.out; omega) HN.out (Own.only HOw.out HU.out) (by have := HSL.out; have := HR2.out; omega) ?_
               intro u3 hO5 hN5))
          exact ⟨⟨i + 1, putAt T p s, by simp, by omega, Lib.hid (by rw [HE.out, ← HT.out]), Lib.hid (by rw [putAt_len (by have := HN.out; have := HSL.out; have := HR2.out; omega), HN.out]), Lib.hid hO5,
            Lib.hid ((HBe.out.trans (HU.out.below (B := W.heap.size) HBe.out.size (fun _ hk => hk.elim))).trans (hN5.below (Nat.le_trans HBe.out.size HU.out.size) (fun k hk => by rw [hk]; exact HG.out))), Lib.hid (hN5.keeps (HU.out.keeps HTb.out id) HGT.out), HER2⟩, by simp [intOf]; omega⟩
        · have d7 : (e != 0) = true := bne_iff_ne.mpr c6
          replace HNO := Lib.hid (HNO.out c6)
          clear c6 hr2 hr3 HER2 HQ
          go_wp2_with (first
            | (go_at_call 31; (with_reducible refine (HPO.out _).mono ?_); rintro x u1 ⟨rfl, hO3⟩
               have HU := Lib.hid (HON.out.trans' hO3)
               clear hO3))
          go_ret2
          exact nil_post HNO.out rfl HU.out
      · have d5 : decide ((i : Int) < 7) = false := decide_eq_false (by omega)
        obtain rfl : i = 7 := by omega
        have HPL := Lib.hid (show putL H = (bodyP H, 0) by
          unfold putL
          rw [if_pos HF2.out, if_pos (show numAll H = true from List.all_eq_true.2 (fun j hj => decide_eq_true (HER.out j (List.mem_range.1 hj))))])
        have HBY := Lib.hid (show bodyP H = putAt T 148 ((putOct (sumOf T) 7).1 ++ [32]) by rw [HT.out]; rfl)
        have HSM := Lib.hid (fun u A c (hR : RdU u A T) => sum_any (c := c) HN.out hR)
        have HZ := Lib.hid (sumOf_in HN.out)
        obtain ⟨z, hz⟩ : ∃ z, sumOf T = z := ⟨_, rfl⟩
        rw [hz] at HBY HSM HZ
        clear hz
        have HP := Lib.hid (fun u => putOctal_any z 7 (by have := HZ.out; omega) (by have := HZ.out; omega) (by decide) (by decide) u)
        have HSL := Lib.hid (putOct_sum HZ.out.1 HZ.out.2)
        have HPO := Lib.hid (show ∀ u, Calls Tryd.prog 31 #[.int .i64 z, .int .i64 7] u fun x u' => x = .returned (.tuple #[.string (B (putOct z 7).1), .int .i64 (putOct z 7).2]) ∧ Only (fun _ => False) u u' from fun u => HP.out u)
        obtain ⟨s, hs⟩ : ∃ s, (putOct z 7).1 = s := ⟨_, rfl⟩
        obtain ⟨e, he⟩ : ∃ e, (putOct z 7).2 = e := ⟨_, rfl⟩
        rw [hs] at HSL HPO HBY
        rw [he] at HPO
        have HCat := Lib.hid (show B s ++ ⟨#[32]⟩ = B (s ++ [32]) by rw [concat_B, B_data])
        have HRU := Lib.hid (own_rdu HOw.out)
        obtain ⟨D, hD⟩ : ∃ D, B s = D := ⟨_, rfl⟩
        have hsz : ¬ (D.size + (⟨#[32]⟩ : ByteArray).size > 9223372036854775807) := by rw [← hD, B_size, HSL.out]; decide
        rw [hD] at HPO HCat
        clear hs he hD HP HF2 HH
        go_wp2_with (first
          | (go_at_call 13; refine (HSM.out _ _ _ HRU.out).mono ?_; rintro x u0 ⟨rfl, rfl⟩)
          | (go_at_call 31; (with_reducible refine (HPO.out _).mono ?_); rintro x u1 ⟨rfl, hO3⟩; have HU := Lib.hid hO3; clear hO3)
          | (go_at_call 23; refine (field_at (g := g) (L := 512) (c := cap) _ _ HC.out (by decide) (by decide) (by decide)).mono ?_; rintro x u2 ⟨rfl, rfl⟩)
          | (with_reducible refine gate 124 rfl ?_
             refine copy_put rfl (.tmp 121) (.tmp 123) rfl rfl (s ++ [32]) (congrArg Value.string HCat.out) (by rw [List.length_append, HSL.out]; decide) HN.out (Own.only HOw.out HU.out) (by rw [List.length_append, HSL.out]; decide) ?_
             intro u3 hO5 hN5))
        go_ret2
        have HLN := Lib.hid (show (putAt T 148 (s ++ [32])).length = 512 by rw [putAt_len (by rw [List.length_append, HSL.out, HN.out]; decide), HN.out])
        exact ⟨some ⟨g, 0, none⟩, 512, cap, by rw [HPL.out]; rfl, by rw [HPL.out, HBY.out]; exact HLN.out, HC.out, by rw [HPL.out, HBY.out]; exact own_rdu hO5,
          ((HO.out.trans (Only.of_below HBe.out (fun _ => False)) (fun _ hk => hk.elim)).trans' HU.out).trans hN5 (fun k hk => Or.inr (by rw [hk]; exact Nat.le_trans HO.out.size HG.out))⟩
  · have HPL := Lib.hid (show putL H = ([], 1) by unfold putL; rw [if_neg (show ¬ fitAll H = true by rw [HF.out]; exact c)])
    clear HL HF HH
    cases f1 with
    | false =>
      go_wp2_with (first
        | (go_at_call 30; (with_reducible refine K1.out.mono ?_); rintro x w1 ⟨rfl, rfl⟩)
        | (go_at_call 30; (with_reducible refine K2.out.mono ?_); rintro x w1 ⟨rfl, rfl⟩)
        | (go_at_call 30; (with_reducible refine K3.out.mono ?_); rintro x w1 ⟨rfl, rfl⟩)
        | (go_at_call 30; (with_reducible refine K4.out.mono ?_); rintro x w1 ⟨rfl, rfl⟩)
        | (go_at_call 30; (with_reducible refine K5.out.mono ?_); rintro x w1 ⟨rfl, rfl⟩))
      go_ret2
      exact nil_post HPL.out rfl HO.out
    | true =>
      cases f2 with
      | false =>
        go_wp2_with (first
          | (go_at_call 30; (with_reducible refine K1.out.mono ?_); rintro x w1 ⟨rfl, rfl⟩)
          | (go_at_call 30; (with_reducible refine K2.out.mono ?_); rintro x w1 ⟨rfl, rfl⟩)
          | (go_at_call 30; (with_reducible refine K3.out.mono ?_); rintro x w1 ⟨rfl, rfl⟩)
          | (go_at_call 30; (with_reducible refine K4.out.mono ?_); rintro x w1 ⟨rfl, rfl⟩)
          | (go_at_call 30; (with_reducible refine K5.out.mono ?_); rintro x w1 ⟨rfl, rfl⟩))
        go_ret2
        exact nil_post HPL.out rfl HO.out
      | true =>
        cases f3 with
        | false =>
          go_wp2_with (first
            | (go_at_call 30; (with_reducible refine K1.out.mono ?_); rintro x w1 ⟨rfl, rfl⟩)
            | (go_at_call 30; (with_reducible refine K2.out.mono ?_); rintro x w1 ⟨rfl, rfl⟩)
            | (go_at_call 30; (with_reducible refine K3.out.mono ?_); rintro x w1 ⟨rfl, rfl⟩)
            | (go_at_call 30; (with_reducible refine K4.out.mono ?_); rintro x w1 ⟨rfl, rfl⟩)
            | (go_at_call 30; (with_reducible refine K5.out.mono ?_); rintro x w1 ⟨rfl, rfl⟩))
          go_ret2
          exact nil_post HPL.out rfl HO.out
        | true =>
          cases f4 with
          | false =>
            go_wp2_with (first
              | (go_at_call 30; (with_reducible refine K1.out.mono ?_); rintro x w1 ⟨rfl, rfl⟩)
              | (go_at_call 30; (with_reducible refine K2.out.mono ?_); rintro x w1 ⟨rfl, rfl⟩)
              | (go_at_call 30; (with_reducible refine K3.out.mono ?_); rintro x w1 ⟨rfl, rfl⟩)
              | (go_at_call 30; (with_reducible refine K4.out.mono ?_); rintro x w1 ⟨rfl, rfl⟩)
              | (go_at_call 30; (with_reducible refine K5.out.mono ?_); rintro x w1 ⟨rfl, rfl⟩))
            go_ret2
            exact nil_post HPL.out rfl HO.out
          | true =>
            cases f5 with
            | false =>
              go_wp2_with (first
                | (go_at_call 30; (with_reducible refine K1.out.mono ?_); rintro x w1 ⟨rfl, rfl⟩)
                | (go_at_call 30; (with_reducible refine K2.out.mono ?_); rintro x w1 ⟨rfl, rfl⟩)
                | (go_at_call 30; (with_reducible refine K3.out.mono ?_); rintro x w1 ⟨rfl, rfl⟩)
                | (go_at_call 30; (with_reducible refine K4.out.mono ?_); rintro x w1 ⟨rfl, rfl⟩)
                | (go_at_call 30; (with_reducible refine K5.out.mono ?_); rintro x w1 ⟨rfl, rfl⟩))
              go_ret2
              exact nil_post HPL.out rfl HO.out
            | true =>
              exact absurd rfl c
end Go.Proofs.YtggjdfnkmhlliaaDoor.Walks
