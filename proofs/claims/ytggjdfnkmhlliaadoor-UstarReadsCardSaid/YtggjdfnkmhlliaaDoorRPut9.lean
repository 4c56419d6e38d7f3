/- Contract of the reference's Put. -/
import Derived.Test.YtggjdfnkmhlliaaDoorPut
import Derived.Test.YtggjdfnkmhlliaaDoorRRead
namespace Go.Proofs.YtggjdfnkmhlliaaDoor.Walks
open Go Go.RowKit Go.Proofs.YtggjdfnkmhlliaaDoor.Aid Go.Proofs.YtggjdfnkmhlliaaDoor.Own Go.Proofs.YtggjdfnkmhlliaaDoorW.PrintWords

def txt (H : Hdr) (i : Nat) : Str := [H.name, H.pre, H.target, H.user, H.group].getD i []
def posT (i : Nat) : Nat := [0, 345, 157, 265, 297].getD i 0
def lenT (i : Nat) : Nat := [100, 155, 100, 32, 32].getD i 0
def txtTo (H : Hdr) : Nat → Str
  | 0 => List.replicate 512 0
  | i + 1 => putAt (txtTo H i) (posT i) (txt H i)
def octRTo (H : Hdr) : Nat → Str
  | 0 => txtTo H 5
  | i + 1 => putAt (octRTo H i) (posP i) (putOct (numP H i) (lenP i)).1
def bodyR0 (H : Hdr) : Str := putAt (putAt (octRTo H 7) 257 magic) 156 [H.type]
def bodyR (H : Hdr) : Str := putAt (bodyR0 H) 148 ((putOct (sumOf (bodyR0 H)) 7).1 ++ [32])
def tabTxt (H : Hdr) : Array Value := #[.string (B H.name), .string (B H.pre), .string (B H.target), .string (B H.user), .string (B H.group)]
def tabPos : Array Value := #[.int .i64 0, .int .i64 100, .int .i64 345, .int .i64 155, .int .i64 157, .int .i64 100, .int .i64 265, .int .i64 32, .int .i64 297, .int .i64 32]
theorem tabT_at (H : Hdr) {i : Nat} (h : i < 5) (hH : HOk H) : (tabTxt H)[i]? = some (.string (B (txt H i))) ∧ tabPos[i * 2]? = some (.int .i64 (posT i : Int)) ∧ tabPos[i * 2 + 1]? = some (.int .i64 (lenT i : Int)) ∧ posT i + lenT i ≤ 512 ∧ (txt H i).length ≤ 1000 ∧ lenT i ≤ 155 := by
  rcases (show i = 0 ∨ i = 1 ∨ i = 2 ∨ i = 3 ∨ i = 4 by omega) with rfl | rfl | rfl | rfl | rfl
  · exact ⟨rfl, rfl, rfl, by decide, hH.name, by decide⟩
  · exact ⟨rfl, rfl, rfl, by decide, hH.pre, by decide⟩
  · exact ⟨rfl, rfl, rfl, by decide, hH.target, by decide⟩
  · exact ⟨rfl, rfl, rfl, by decide, hH.user, by decide⟩
  · exact ⟨rfl, rfl, rfl, by decide, hH.group, by decide⟩
theorem fitAll_iff (H : Hdr) : fitAll H = true ↔ ∀ i, i < 5 → fitB (txt H i) (lenT i) = true := by
  unfold fitAll
  simp only [Bool.and_eq_true]
  constructor
  · rintro ⟨⟨⟨⟨h0, h1⟩, h2⟩, h3⟩, h4⟩ i hi
    rcases (show i = 0 ∨ i = 1 ∨ i = 2 ∨ i = 3 ∨ i = 4 by omega) with rfl | rfl | rfl | rfl | rfl
    · exact h0
    · exact h1
    · exact h2
    · exact h3
    · exact h4
  · intro h
    exact ⟨⟨⟨⟨h 0 (by decide), h 1 (by decide)⟩, h 2 (by decide)⟩, h 3 (by decide)⟩, h 4 (by decide)⟩
theorem putL_nofit {H : Hdr} {i : Nat} (hi : i < 5) (h : fitB (txt H i) (lenT i) ≠ true) : putL H = ([], 1) := by
  unfold putL
  rw [if_neg (show ¬ fitAll H = true from fun e => h ((fitAll_iff H).1 e i hi))]
theorem fit_no_len {l : Str} {n : Nat} (h : ¬ l.length ≤ n) : fitB l n ≠ true := fun e => h (fit_len e)
theorem noZ_iff (l : Str) : noZ l = true ↔ ∀ j, j < l.length → l.getD j 0 ≠ 0 := by
  unfold noZ
  rw [List.all_eq_true]
  constructor
  · intro h j hj
    have := h (l.getD j 0) (by rw [List.getD_eq_getElem?_getD, List.getElem?_eq_getElem hj]; exact List.getElem_mem hj)
    exact of_decide_eq_true this
  · intro h x hx
    obtain ⟨j, hj, rfl⟩ := List.mem_iff_getElem.1 hx
    have := h j hj
    rw [List.getD_eq_getElem?_getD, List.getElem?_eq_getElem hj] at this
    exact decide_eq_true this
theorem fit_no_zero {l : Str} {n j : Nat} (hj : j < l.length) (h : l.getD j 0 = 0) : fitB l n ≠ true := fun e => by
  unfold fitB at e
  rw [Bool.and_eq_true] at e
  exact (noZ_iff l).1 e.2 j hj h
theorem fit_yes {l : Str} {n : Nat} (h : l.length ≤ n) (hz : ∀ j, j < l.length → l.getD j 0 ≠ 0) : fitB l n = true := by
  unfold fitB
  rw [decide_eq_true h, (noZ_iff l).2 hz]; rfl
theorem putAt_nil (l : Str) (a : Nat) : putAt l a [] = l := by
  unfold putAt
  rw [List.append_nil, List.length_nil, Nat.add_zero, List.take_append_drop]
theorem ext_getD {l m : Str} (h : l.length = m.length) (hg : ∀ j, j < l.length → l.getD j 0 = m.getD j 0) : l = m := by
  apply List.ext_getElem h
  intro j h1 h2
  have := hg j h1
  rw [List.getD_eq_getElem?_getD, List.getD_eq_getElem?_getD, List.getElem?_eq_getElem h1, List.getElem?_eq_getElem h2] at this
  exact this
theorem take_getD {l : Str} {k j : Nat} (h : j < k) : (l.take k).getD j 0 = l.getD j 0 := by
  rw [List.getD_eq_getElem?_getD, List.getD_eq_getElem?_getD, List.getElem?_take, if_pos h]
theorem putAt_comm {l s t : Str} {a b : Nat} (h : a + s.length ≤ b) (h2 : b + t.length ≤ l.length) : putAt (putAt l a s) b t = putAt (putAt l b t) a s := by
  have e1 : (putAt l a s).length = l.length := putAt_len (by omega)
  have e2 : (putAt l b t).length = l.length := putAt_len h2
  refine ext_getD (by rw [putAt_len (by omega), e1, putAt_len (by omega), e2]) (fun j hj => ?_)
  rw [putAt_get (by omega), putAt_get (by omega), putAt_get (by omega), putAt_get (by omega)]
  by_cases c1 : b ≤ j ∧ j < b + t.length
  · rw [if_pos c1, if_neg (by omega), if_pos c1]
  · rw [if_neg c1, if_neg c1]
theorem putAt_snoc {l : Str} {a : Nat} {s : Str} {k : Nat} {x : UInt8} (hk : k < s.length) (hx : s.getD k 0 = x) (h : a + s.length ≤ l.length) : (ints (putAt l a (s.take k))).set (a + k) (x.toNat : Int) = ints (putAt l a (s.take (k + 1))) := by
  have hl : (s.take k).length = k := by rw [List.length_take]; omega
  have hl2 : (s.take (k + 1)).length = k + 1 := by rw [List.length_take]; omega
  have e1 : (putAt l a (s.take k)).length = l.length := putAt_len (by omega)
  have e2 : (putAt l a (s.take (k + 1))).length = l.length := putAt_len (by omega)
  rw [set_putAt (by omega)]
  congr 1
  refine ext_getD (by rw [putAt_len (by simp; omega), e1, e2]) (fun j hj => ?_)
  rw [putAt_get (by simp; omega), putAt_get (by omega), putAt_get (by omega), hl, hl2, List.length_singleton]
  by_cases c1 : a + k ≤ j ∧ j < a + k + 1
  · obtain rfl : j = a + k := by omega
    rw [if_pos c1, if_pos (by omega), take_getD (by omega), Nat.sub_self, show a + k - a = k by omega, hx]; rfl
  · rw [if_neg c1]
    by_cases c2 : a ≤ j ∧ j < a + k
    · rw [if_pos c2, if_pos (by omega), take_getD (by omega), take_getD (by omega)]
    · rw [if_neg c2, if_neg (by omega)]
theorem putAt_whole {l : Str} {a : Nat} {s : Str} (k : Nat) (h : k = s.length) : putAt l a (s.take k) = putAt l a s := by rw [h, List.take_length]
def tabN (H : Hdr) : Array Value := #[.int .i64 H.mode, .int .i64 H.uid, .int .i64 H.gid, .int .i64 H.size, .int .i64 H.time, .int .i64 0, .int .i64 0]
def tabQ : Array Value := #[.int .i64 100, .int .i64 8, .int .i64 108, .int .i64 8, .int .i64 116, .int .i64 8, .int .i64 124, .int .i64 12, .int .i64 136, .int .i64 12, .int .i64 329, .int .i64 8, .int .i64 337, .int .i64 8]
theorem tabN_at (H : Hdr) (hH : HOk H) {i : Nat} (h : i < 7) : (tabN H)[i]? = some (.int .i64 (numP H i)) ∧ tabQ[i * 2]? = some (.int .i64 (posP i : Int)) ∧ tabQ[i * 2 + 1]? = some (.int .i64 (lenP i : Int)) ∧ posP i + lenP i ≤ 512 ∧ (2 ≤ lenP i ∧ lenP i ≤ 12) ∧ (-9223372036854775808 ≤ numP H i ∧ numP H i ≤ 9223372036854775807) := by
  obtain ⟨_, h2, h3, h4, _⟩ := tab7_at H hH h
  refine ⟨?_, ?_, ?_, h2, h3, h4⟩ <;> (rcases (show i = 0 ∨ i = 1 ∨ i = 2 ∨ i = 3 ∨ i = 4 ∨ i = 5 ∨ i = 6 by omega) with rfl | rfl | rfl | rfl | rfl | rfl | rfl <;> rfl)
theorem putAt_comm2 {l s t : Str} {a b : Nat} (h : a + s.length ≤ b ∨ b + t.length ≤ a) (h1 : a + s.length ≤ l.length) (h2 : b + t.length ≤ l.length) : putAt (putAt l a s) b t = putAt (putAt l b t) a s := by
  rcases h with h | h
  · exact putAt_comm h h2
  · exact (putAt_comm h h1).symm
def octB (b : Str) (H : Hdr) : Nat → Str
  | 0 => b
  | i + 1 => putAt (octB b H i) (posP i) (putOct (numP H i) (lenP i)).1
theorem octTo_B (H : Hdr) (i : Nat) : octTo H i = octB (body0 H) H i := by
  induction i with
  | zero => rfl
  | succ i ih => rw [octTo, octB, ih]
theorem octRTo_B (H : Hdr) (i : Nat) : octRTo H i = octB (txtTo H 5) H i := by
  induction i with
  | zero => rfl
  | succ i ih => rw [octRTo, octB, ih]
theorem posP_le {i : Nat} (h : i < 7) : posP i + lenP i ≤ 512 ∧ 100 ≤ posP i ∧ (posP i + lenP i ≤ 148 ∨ 329 ≤ posP i) ∧ posP i + lenP i ≤ 345 := by
  rcases (show i = 0 ∨ i = 1 ∨ i = 2 ∨ i = 3 ∨ i = 4 ∨ i = 5 ∨ i = 6 by omega) with rfl | rfl | rfl | rfl | rfl | rfl | rfl <;> decide
theorem octB_len {b : Str} {H : Hdr} (hb : b.length = 512) (hn : ∀ j, j < 7 → (putOct (numP H j) (lenP j)).2 = 0) : ∀ i, i ≤ 7 → (octB b H i).length = 512
  | 0, _ => hb
  | i + 1, h => by
    have := posP_le (i := i) (by omega)
    have hl := putOct_len (numP H i) (lenP i) (hn i (by omega))
    have ih := octB_len hb hn i (by omega)
    rw [octB, putAt_len (by omega), ih]
theorem octB_put {b t : Str} {H : Hdr} {x : Nat} (hb : b.length = 512) (hx : x + t.length ≤ 512) (hn : ∀ j, j < 7 → (putOct (numP H j) (lenP j)).2 = 0) (hd : ∀ j, j < 7 → posP j + lenP j ≤ x ∨ x + t.length ≤ posP j) : ∀ i, i ≤ 7 → octB (putAt b x t) H i = putAt (octB b H i) x t
  | 0, _ => rfl
  | i + 1, h => by
    have h1 := posP_le (i := i) (by omega)
    have hl := putOct_len (numP H i) (lenP i) (hn i (by omega))
    have h2 := octB_len hb hn i (by omega)
    have h3 := hd i (by omega)
    rw [octB, octB, octB_put hb hx hn hd i (by omega)]
    exact putAt_comm2 (by omega) (by omega) (by omega)
theorem body0_eq {H : Hdr} (hf : fitAll H = true) : body0 H = putAt (putAt (txtTo H 5) 257 magic) 156 [H.type] := by
  have h := (fitAll_iff H).1 hf
  have n0 : H.name.length ≤ 100 := fit_len (h 0 (by decide))
  have n1 : H.pre.length ≤ 155 := fit_len (h 1 (by decide))
  have n2 : H.target.length ≤ 100 := fit_len (h 2 (by decide))
  have n3 : H.user.length ≤ 32 := fit_len (h 3 (by decide))
  have n4 : H.group.length ≤ 32 := fit_len (h 4 (by decide))
  have l0 : (List.replicate 512 (0 : UInt8)).length = 512 := List.length_replicate
  have lm : magic.length = 8 := rfl
  show putAt (putAt (putAt (putAt (putAt (putAt (putAt (List.replicate 512 0) 0 H.name) 157 H.target) 257 magic) 265 H.user) 297 H.group) 345 H.pre) 156 [H.type] = putAt (putAt (putAt (putAt (putAt (putAt (putAt (List.replicate 512 0) 0 H.name) 345 H.pre) 157 H.target) 265 H.user) 297 H.group) 257 magic) 156 [H.type]
  obtain ⟨R, hR⟩ : ∃ R, List.replicate 512 (0 : UInt8) = R := ⟨_, rfl⟩
  rw [hR] at l0 ⊢
  obtain ⟨A, hA⟩ : ∃ A, putAt R 0 H.name = A := ⟨_, rfl⟩
  have lA : A.length = 512 := by rw [← hA, putAt_len (by omega), l0]
  rw [hA]
  obtain ⟨M, hM⟩ : ∃ M, magic = M := ⟨_, rfl⟩
  rw [hM] at lm ⊢
  have l1 : (putAt A 157 H.target).length = 512 := by rw [putAt_len (by omega), lA]
  have l2 : (putAt (putAt A 157 H.target) 265 H.user).length = 512 := by rw [putAt_len (by omega), l1]
  have l3 : (putAt (putAt (putAt A 157 H.target) 265 H.user) 297 H.group).length = 512 := by rw [putAt_len (by omega), l2]
  rw [putAt_comm2 (l := putAt A 157 H.target) (s := M) (t := H.user) (by omega) (by omega) (by omega),
    putAt_comm2 (l := putAt (putAt A 157 H.target) 265 H.user) (s := M) (t := H.group) (by omega) (by omega) (by omega),
    putAt_comm2 (l := putAt (putAt (putAt A 157 H.target) 265 H.user) 297 H.group) (s := M) (t := H.pre) (by omega) (by omega) (by omega),
    putAt_comm2 (l := putAt (putAt A 157 H.target) 265 H.user) (s := H.group) (t := H.pre) (by omega) (by omega) (by omega),
    putAt_comm2 (l := putAt A 157 H.target) (s := H.user) (t := H.pre) (by omega) (by omega) (by omega),
    putAt_comm2 (l := A) (s := H.target) (t := H.pre) (by omega) (by omega) (by omega)]
theorem txtTo_len {H : Hdr} (hf : fitAll H = true) : ∀ i, i ≤ 5 → (txtTo H i).length = 512
  | 0, _ => List.length_replicate
  | i + 1, hi => by
    have h := fit_len ((fitAll_iff H).1 hf i (by omega))
    have h2 : posT i + lenT i ≤ 512 := by
      rcases (show i = 0 ∨ i = 1 ∨ i = 2 ∨ i = 3 ∨ i = 4 by omega) with rfl | rfl | rfl | rfl | rfl <;> decide
    have ih := txtTo_len hf i (by omega)
    rw [txtTo, putAt_len (by omega), ih]
theorem octTo_eq {H : Hdr} (hf : fitAll H = true) (hn : ∀ j, j < 7 → (putOct (numP H j) (lenP j)).2 = 0) : octTo H 7 = bodyR0 H := by
  have l0 := txtTo_len hf 5 (by decide)
  have lm : magic.length = 8 := rfl
  have l1 : (putAt (txtTo H 5) 257 magic).length = 512 := by rw [putAt_len (by omega), l0]
  rw [octTo_B, body0_eq hf, octB_put l1 (by simp) hn (fun j hj => by have := posP_le hj; simp; omega) 7 (by decide), octB_put l0 (by omega) hn (fun j hj => by have := posP_le hj; omega) 7 (by decide)]
  unfold bodyR0
  rw [octRTo_B]
theorem body_eq {H : Hdr} (hf : fitAll H = true) (hn : ∀ j, j < 7 → (putOct (numP H j) (lenP j)).2 = 0) : bodyP H = bodyR H := by
  unfold bodyP bodyR
  rw [octTo_eq hf hn]
theorem keep3 {W u u' : World} {a b : Addr} {v v' : Value} (h : u.cell? a = some v ∧ u.cell? b = some v' ∧ Only (fun _ => False) W u) (ho : Only (fun _ => False) u u') : u'.cell? a = some v ∧ u'.cell? b = some v' ∧ Only (fun _ => False) W u' :=
  ⟨ho.cell h.1 id, ho.cell h.2.1 id, h.2.2.trans' ho⟩
def RPutPost (H : Hdr) (w : World) (x : Ending) (w' : World) : Prop := x = .returned (.tuple #[.string (B (putL H).1), .int .i64 (putL H).2]) ∧ Only (fun _ => False) w w'
set_option maxRecDepth 100000 in
set_option maxHeartbeats 4000000 in
theorem rput_any {H : Hdr} (w : World) (hH : HOk H) : Calls Tryd.prog 9 #[hval H] w (RPutPost H w) := by
  have HH := Lib.hid hH
  have HO := Lib.hid ((Only.refl (fun _ => False) w).alloc (.cells (hrow H) 24))
  have hb := alloc_new w (.cells (hrow H) 24)
  obtain ⟨g1, hg1⟩ : ∃ g1, w.heap.size = g1 := ⟨_, rfl⟩
  obtain ⟨W, hW⟩ : ∃ W, w.alloc (.cells (hrow H) 24) = W := ⟨_, rfl⟩
  rw [hW, hg1] at hb
  rw [hW] at HO
  have HB := Lib.hid hb
  have HG1 := Lib.hid (show g1 < W.heap.size from Only.heap_lt hb)
  have HGW := Lib.hid (And.intro hg1 hW)
  clear hg1 hW hb hH
  go_enter Tryd.func9, Tryd.ntmps9
  go_upto_region 1 with (fail)
  change Code.wp Tryd.prog _ _ _ (w.alloc (.cells (hrow H) 24))
  rw [HGW.out.2, HGW.out.1]
  go_upto_region 2 with (first
    | (with_reducible refine gate 17 rfl ?_
       refine own_make (base := W.heap.size) (w0 := W) rfl rfl (.const (.int .i64 512)) rfl 512 rfl (Below.refl _ _) (Nat.le_refl _) (by decide) ?_
       intro v1 w1 hV1 hB1
       obtain ⟨g, cap, rfl, hg⟩ := hV1.form (by rw [List.length_replicate]; decide)
       have HOw := Lib.hid (show Own W.heap.size w1 (.slice (some ⟨g, 0, none⟩) 512 cap) (ints (List.replicate 512 0)) by rw [replicate_ints]; rw [List.length_replicate] at hV1; exact hV1)
       have HBe := Lib.hid hB1
       have HG := Lib.hid hg
       clear hV1 hB1 hg))
  have HC := Lib.hid (show 512 ≤ cap from (own_capn HOw.out).2)
  have hb := (HBe.out.block g1 HG1.out).trans HB.out
  have c0 : w1.cell? ⟨g1, 0, none⟩ = some (.string (B H.name)) := Joins.cell_of_block hb 0
  have c1 : w1.cell? ⟨g1, 1, none⟩ = some (.string (B H.pre)) := Joins.cell_of_block hb 1
  have c2 : w1.cell? ⟨g1, 2, none⟩ = some (.string (B H.target)) := Joins.cell_of_block hb 2
  have c9 : w1.cell? ⟨g1, 9, none⟩ = some (.string (B H.user)) := Joins.cell_of_block hb 9
  have c10 : w1.cell? ⟨g1, 10, none⟩ = some (.string (B H.group)) := Joins.cell_of_block hb 10
  clear hb
  go_wp2_with fail
  change Code.wp Tryd.prog _ _ _ ((w1.alloc (.cells (tabTxt H) 9)).alloc (.cells tabPos 41))
  have HT1 := Lib.hid ((alloc_old (w1.alloc (.cells (tabTxt H) 9)) (.cells tabPos 41) (by simp)).trans (alloc_new w1 (.cells (tabTxt H) 9)))
  have HT2 := Lib.hid (show ((w1.alloc (.cells (tabTxt H) 9)).alloc (.cells tabPos 41)).heap[w1.heap.size + 1]? = some (.cells tabPos 41 (0, 0)) by have := alloc_new (w1.alloc (.cells (tabTxt H) 9)) (.cells tabPos 41); rwa [alloc_size] at this)
  have HO2 := Lib.hid (show Own W.heap.size ((w1.alloc (.cells (tabTxt H) 9)).alloc (.cells tabPos 41)) (.slice (some ⟨g, 0, none⟩) 512 cap) (ints (List.replicate 512 0)) from Own.only HOw.out (((Only.refl _ w1).alloc _).alloc _))
  have HB2 := Lib.hid ((HBe.out.alloc HBe.out.size (.cells (tabTxt H) 9)).alloc (by rw [alloc_size]; have := HBe.out.size; omega) (.cells tabPos 41))
  have HGT := Lib.hid (show g < w1.heap.size from World.block_lt_of_cell? w1 _ (Own.cell HOw.out (j := 0) (by rw [ints_len, List.length_replicate]; decide)))
  have HGU := Lib.hid (show W.heap.size ≤ w1.heap.size from HBe.out.size)
  obtain ⟨V, hV⟩ : ∃ V, (w1.alloc (.cells (tabTxt H) 9)).alloc (.cells tabPos 41) = V := ⟨_, rfl⟩
  obtain ⟨gt, hgt⟩ : ∃ gt, w1.heap.size = gt := ⟨_, rfl⟩
  rw [hV, hgt] at HT1 HT2 ⊢
  rw [hV] at HO2 HB2
  rw [hgt] at HGT HGU
  clear HOw HBe c0 c1 c2 c9 c10 hV hgt
  clear w1
  go_loopw [7] (fun v7 u => ∃ (i : Nat) (T : Str), v7 = .int .i64 (i : Int) ∧ i ≤ 5 ∧ Hid (T = txtTo H i) ∧ Hid (T.length = 512) ∧ Hid (Own W.heap.size u (.slice (some ⟨g, 0, none⟩) 512 cap) (ints T)) ∧ Hid (Below W.heap.size W u) ∧ Hid (u.heap[gt]? = some (.cells (tabTxt H) 9 (0, 0))) ∧ Hid (u.heap[gt + 1]? = some (.cells tabPos 41 (0, 0))) ∧ Hid (∀ j, j < i → fitB (txt H j) (lenT j) = true)) (fun i _ => 5 - (intOf i).toNat)
  case atStart => exact ⟨0, _, rfl, by decide, Lib.hid rfl, Lib.hid (List.length_replicate), HO2, HB2, HT1, HT2, Lib.hid (fun j h => absurd h (by omega))⟩
  case round =>
    clear HO2 HB2 HT1 HT2
    obtain ⟨i, T, rfl, hi, HT, HN, HOw, HBe, HTx, HTp, HER⟩ := hrel
    by_cases c5 : i < 5
    · have d5 : decide ((i : Int) < 5) = true := decide_eq_true (by omega)
      have d6 : (i : Int) < 5 := by omega
      obtain ⟨hr1, hr2, hr3, hr4, hr5, hr6⟩ := tabT_at H c5 HH.out
      have k1 : wr.cell? ⟨gt, i, none⟩ = some (.string (B (txt H i))) := (Joins.cell_of_block HTx.out i).trans hr1
      have k2 : wr.cell? ⟨gt + 1, i * 2, none⟩ = some (.int .i64 (posT i : Int)) := (Joins.cell_of_block HTp.out (i * 2)).trans hr2
      have k3 : wr.cell? ⟨gt + 1, i * 2 + 1, none⟩ = some (.int .i64 (lenT i : Int)) := (Joins.cell_of_block HTp.out (i * 2 + 1)).trans hr3
      have HFY := Lib.hid (fun a b => fit_yes (l := txt H i) (n := lenT i) a b)
      have HFN := Lib.hid (fun a => putL_nofit (H := H) c5 (fit_no_len a))
      have HFZ := Lib.hid (fun j a b => putL_nofit (H := H) c5 (fit_no_zero (j := j) a b))
      have HE := Lib.hid (show txtTo H (i + 1) = putAt (txtTo H i) (posT i) (txt H i) from rfl)
      have HER2 := Lib.hid (show fitB (txt H i) (lenT i) = true → ∀ j, j < i + 1 → fitB (txt H j) (lenT j) = true from fun e0 j hj => by
        by_cases e : j = i
        · rw [e]; exact e0
        · exact HER.out j (by omega))
      obtain ⟨p, hp⟩ : ∃ p, posT i = p := ⟨_, rfl⟩
      obtain ⟨q, hq⟩ : ∃ q, lenT i = q := ⟨_, rfl⟩
      obtain ⟨s, hs⟩ : ∃ s, txt H i = s := ⟨_, rfl⟩
      rw [hp] at k2 HE hr4
      rw [hq] at k3 HFY HFN HER2 hr4 hr6
      rw [hs] at k1 HFY HFN HFZ HE HER2 hr5
      obtain ⟨S, hS⟩ : ∃ S, B s = S := ⟨_, rfl⟩
      have hSl : S.size = s.length := by rw [← hS, B_size]
      have HSd := Lib.hid (show S.data.toList = s by rw [← hS, B_data])
      rw [hS] at k1
      clear hp hq hs hr1 hr2 hr3 HER hS
      by_cases c6 : s.length ≤ q
      · have d7 : decide ((S.size : Int) > (q : Int)) = false := decide_eq_false (by omega)
        have d8 : decide (q < S.size) = false := decide_eq_false (by omega)
        have HSS := Lib.hid hSl
        have HLQ := Lib.hid c6
        have b1 : S.size ≤ 1000 := by omega
        have hpq := Lib.hid hr4
        clear hSl c6 hr4 hr5 hr6 HFN
        go_wp2_with fail
        obtain ⟨wo, hwo⟩ : ∃ wo : World, wo = wr := ⟨_, rfl⟩
        rw [← hwo] at HOw HBe HTx HTp k1 k2 k3 ⊢
        clear hwo
        clear wr
        go_loopw [9] (fun v9 u => ∃ (k : Nat) (T2 : Str), v9 = .int .i64 (k : Int) ∧ k ≤ s.length ∧ Hid (T2 = putAt T p (s.take k)) ∧ Hid (T2.length = 512) ∧ Hid (Own W.heap.size u (.slice (some ⟨g, 0, none⟩) 512 cap) (ints T2)) ∧ Hid (Below W.heap.size W u) ∧ Hid (u.heap[gt]? = some (.cells (tabTxt H) 9 (0, 0))) ∧ Hid (u.heap[gt + 1]? = some (.cells tabPos 41 (0, 0))) ∧ Hid (u.cell? ⟨gt + 1, i * 2, none⟩ = some (.int .i64 (p : Int))) ∧ Hid (∀ j, j < k → s.getD j 0 ≠ 0)) (fun k _ => s.length - (intOf k).toNat)
        case atStart => exact ⟨0, T, rfl, Nat.zero_le _, Lib.hid (by rw [List.take_zero, putAt_nil]), HN, HOw, HBe, HTx, HTp, Lib.hid k2, Lib.hid (fun j h => absurd h (by omega))⟩
        case round =>
          clear HOw HBe HTx HTp k1 k2 k3
          obtain ⟨k, T2, rfl, hk, HT2, HN2, HOw, HBe, HTx, HTp, HK2, HNZ⟩ := hrel
          have k2 := HK2.out
          have b2 : k ≤ 1000 := by have := HSS.out; omega
          by_cases c7 : k < s.length
          · have e1 : decide ((k : Int) < (S.size : Int)) = true := decide_eq_true (by have := HSS.out; omega)
            have e2 : decide (k < S.size) = true := decide_eq_true (by have := HSS.out; omega)
            have hks : k < S.size := by have := HSS.out; omega
            have hx := index_at hks
            rw [HSd.out] at hx
            obtain ⟨x, hxx⟩ : ∃ x, s.getD k 0 = x := ⟨_, rfl⟩
            rw [hxx] at hx
            have HX := Lib.hid hxx
            clear hxx
            have t1 := byte_eq (x := x) (y := 0) 0 rfl
            by_cases c8 : x = 0
            · rw [decide_eq_true c8] at t1
              have HNO := Lib.hid (HFZ.out k c7 (HX.out.trans c8))
              clear c8 HFY
              go_wp2_with fail
              go_ret2
              exact ⟨by rw [HNO.out]; rfl, HO.out.trans (Only.of_below HBe.out (fun _ => False)) (fun _ hk => hk.elim)⟩
            · rw [decide_eq_false c8] at t1
              have HNZ2 := Lib.hid (show ∀ j, j < k + 1 → s.getD j 0 ≠ 0 from fun j hj => by
                by_cases e : j = k
                · rw [e, HX.out]; exact c8
                · exact HNZ.out j (by omega))
              have HPK := Lib.hid (show p + k < 512 by have := HLQ.out; have := hpq.out; omega)
              have q1 : (p : Int) + (k : Int) ≤ 1000000 := by have := HPK.out; omega
              have q2 : (p : Int) + (k : Int) < 512 := by have := HPK.out; omega
              have q3 : (0 : Int) ≤ (p : Int) + (k : Int) := by omega
              have q4 : IntKind.i64.wrap ((p : Int) + (k : Int)) = (p : Int) + (k : Int) := by rw [IntKind.wrap_i64]; omega
              have q5 : ((p : Int) + (k : Int)).toNat = p + k := by omega
              have cp := Own.cell HOw.out (j := p + k) (by rw [ints_len, HN2.out]; exact HPK.out)
              have fp := Own.frozen HOw.out (j := p + k) HPK.out
              obtain ⟨y, hy⟩ : ∃ y, (ints T2).getD (p + k) 0 = y := ⟨_, rfl⟩
              rw [hy] at cp
              clear hy c8
              go_upto_region 15 with (fail)
              go_still_tail 12, (by kernel_rfl)
              change wpList _ _ _ _ _ wr.drew
              have HOd := Lib.hid (Own.putn (Own.only HOw.out ((Only.refl _ wr).drew)) (p + k) (x.toNat : Int))
              have HOe := Lib.hid (show (ints T2).set (p + k) (x.toNat : Int) = ints (putAt T p (s.take (k + 1))) by rw [HT2.out]; exact putAt_snoc c7 HX.out (by have := HLQ.out; have := hpq.out; have := HN.out; omega))
              have HLe := Lib.hid (show (putAt T p (s.take (k + 1))).length = 512 by rw [putAt_len (by have := HLQ.out; have := hpq.out; have := HN.out; simp; omega), HN.out])
              go_wp2_with fail
              exact ⟨⟨k + 1, putAt T p (s.take (k + 1)), by simp, by omega, Lib.hid rfl, HLe, Lib.hid (by rw [← HOe.out]; exact HOd.out), Lib.hid (HBe.out.drew.setCell (p := ⟨g, p + k, none⟩) HG.out _),
                Lib.hid ((heap_setCell_other wr ⟨g, p + k, none⟩ gt _ (show gt ≠ g by have := HGT.out; omega)).trans HTx.out), Lib.hid ((heap_setCell_other wr ⟨g, p + k, none⟩ (gt + 1) _ (show gt + 1 ≠ g by have := HGT.out; omega)).trans HTp.out),
                Lib.hid (((Only.refl (fun k => k = g) wr).setCell (p := ⟨g, p + k, none⟩) (Or.inl rfl) _).cell HK2.out (show ¬ gt + 1 = g by have := HGT.out; omega)), HNZ2⟩, by simp [intOf]; omega⟩
          · have e1 : decide ((k : Int) < (S.size : Int)) = false := decide_eq_false (by have := HSS.out; omega)
            have e2 : decide (k < S.size) = false := decide_eq_false (by have := HSS.out; omega)
            obtain rfl : k = s.length := by omega
            have HER3 := Lib.hid (HER2.out (HFY.out HLQ.out HNZ.out))
            clear HFY HER2 k2
            go_wp2_with fail
            exact ⟨⟨i + 1, T2, by simp, by omega, Lib.hid (by rw [HE.out, HT2.out, HT.out, List.take_length]), HN2, HOw, HBe, HTx, HTp, HER3⟩, by simp [intOf]; omega⟩
      · have d7 : decide ((S.size : Int) > (q : Int)) = true := decide_eq_true (by omega)
        have d8 : decide (q < S.size) = true := decide_eq_true (by omega)
        have HNO := Lib.hid (HFN.out c6)
        clear hSl c6 HFN HFY HFZ
        go_wp2_with fail
        go_ret2
        exact ⟨by rw [HNO.out]; rfl, HO.out.trans (Only.of_below HBe.out (fun _ => False)) (fun _ hk => hk.elim)⟩
    · have d5 : decide ((i : Int) < 5) = false := decide_eq_false (by omega)
      obtain rfl : i = 5 := by omega
      rw [show ((5 : Nat) : Int) = 5 from rfl]
      have d5b : decide ((5 : Int) < 5) = false := rfl
      have HFA := Lib.hid ((fitAll_iff H).2 HER.out)
      have hb := (HBe.out.block g1 HG1.out).trans HB.out
      have c3 : wr.cell? ⟨g1, 3, none⟩ = some (.int .i64 H.mode) := Joins.cell_of_block hb 3
      have c4 : wr.cell? ⟨g1, 4, none⟩ = some (.int .i64 H.uid) := Joins.cell_of_block hb 4
      have c6 : wr.cell? ⟨g1, 6, none⟩ = some (.int .i64 H.size) := Joins.cell_of_block hb 6
      have c7 : wr.cell? ⟨g1, 7, none⟩ = some (.int .i64 H.time) := Joins.cell_of_block hb 7
      have cg : wr.cell? ⟨g1, 5, none⟩ = some (.int .i64 H.gid) := Joins.cell_of_block hb 5
      clear hb HER
      go_wp2_with fail
      change Code.wp Tryd.prog _ _ _ ((wr.alloc (.cells (tabN H) 3)).alloc (.cells tabQ 41))
      have HT1 := Lib.hid ((alloc_old (wr.alloc (.cells (tabN H) 3)) (.cells tabQ 41) (by simp)).trans (alloc_new wr (.cells (tabN H) 3)))
      have HT2 := Lib.hid (show ((wr.alloc (.cells (tabN H) 3)).alloc (.cells tabQ 41)).heap[wr.heap.size + 1]? = some (.cells tabQ 41 (0, 0)) by have := alloc_new (wr.alloc (.cells (tabN H) 3)) (.cells tabQ 41); rwa [alloc_size] at this)
      have HO2 := Lib.hid (show Own W.heap.size ((wr.alloc (.cells (tabN H) 3)).alloc (.cells tabQ 41)) (.slice (some ⟨g, 0, none⟩) 512 cap) (ints T) from Own.only HOw.out (((Only.refl _ wr).alloc _).alloc _))
      have HB2 := Lib.hid ((HBe.out.alloc HBe.out.size (.cells (tabN H) 3)).alloc (by rw [alloc_size]; have := HBe.out.size; omega) (.cells tabQ 41))
      have HGT2 := Lib.hid (show g < wr.heap.size from World.block_lt_of_cell? wr _ (Own.cell HOw.out (j := 0) (by rw [ints_len, HN.out]; decide)))
      have HT0 := Lib.hid (show T = octRTo H 0 from HT.out)
      obtain ⟨V2, hV⟩ : ∃ V2, (wr.alloc (.cells (tabN H) 3)).alloc (.cells tabQ 41) = V2 := ⟨_, rfl⟩
      obtain ⟨g9, hgt⟩ : ∃ g9, wr.heap.size = g9 := ⟨_, rfl⟩
      rw [hV, hgt] at HT1 HT2 ⊢
      rw [hV] at HO2 HB2
      rw [hgt] at HGT2
      clear HOw HBe c3 c4 cg c6 c7 hV hgt HTx HTp HT HGT HGU
      clear wr
      go_loopw [12] (fun v12 u => ∃ (i : Nat) (T : Str), v12 = .int .i64 (i : Int) ∧ i ≤ 7 ∧ Hid (T = octRTo H i) ∧ Hid (T.length = 512) ∧ Hid (Own W.heap.size u (.slice (some ⟨g, 0, none⟩) 512 cap) (ints T)) ∧ Hid (Below W.heap.size W u) ∧ Hid (u.heap[g9]? = some (.cells (tabN H) 3 (0, 0))) ∧ Hid (u.heap[g9 + 1]? = some (.cells tabQ 41 (0, 0))) ∧ Hid (∀ j, j < i → (putOct (numP H j) (lenP j)).2 = 0)) (fun i _ => 7 - (intOf i).toNat)
      case atStart => exact ⟨0, T, rfl, by decide, HT0, HN, HO2, HB2, HT1, HT2, Lib.hid (fun j h => absurd h (by omega))⟩
      case round =>
        clear HO2 HB2 HT1 HT2 HT0 HN
        clear T
        obtain ⟨i, T, rfl, hi, HT, HN, HOw, HBe, HTx, HTp, HER⟩ := hrel
        by_cases c5 : i < 7
        · have d5 : decide ((i : Int) < 7) = true := decide_eq_true (by omega)
          have d6 : (i : Int) < 7 := by omega
          obtain ⟨hr1, hr2, hr3, hr4, hr5, hr6⟩ := tabN_at H HH.out c5
          have k1 : wr.cell? ⟨g9, i, none⟩ = some (.int .i64 (numP H i)) := (Joins.cell_of_block HTx.out i).trans hr1
          have k2 : wr.cell? ⟨g9 + 1, i * 2, none⟩ = some (.int .i64 (posP i : Int)) := (Joins.cell_of_block HTp.out (i * 2)).trans hr2
          have k3 : wr.cell? ⟨g9 + 1, i * 2 + 1, none⟩ = some (.int .i64 (lenP i : Int)) := (Joins.cell_of_block HTp.out (i * 2 + 1)).trans hr3
          have HP := Lib.hid (fun u => rputOctal_any (numP H i) (lenP i) hr6.1 hr6.2 (by omega) (by omega) u)
          have HQ := Lib.hid (putOct_len (numP H i) (lenP i))
          have HE := Lib.hid (show octRTo H (i + 1) = putAt (octRTo H i) (posP i) (putOct (numP H i) (lenP i)).1 from rfl)
          have HER2 := Lib.hid (show (putOct (numP H i) (lenP i)).2 = 0 → ∀ j, j < i + 1 → (putOct (numP H j) (lenP j)).2 = 0 from fun e0 j hj => by
            by_cases e : j = i
            · rw [e]; exact e0
            · exact HER.out j (by omega))
          have HNO := Lib.hid (show (putOct (numP H i) (lenP i)).2 ≠ 0 → putL H = ([], 7) from fun e0 => by
            unfold putL
            rw [if_pos HFA.out, if_neg (show ¬ numAll H = true from fun h => e0 (of_decide_eq_true (List.all_eq_true.1 (show (List.range 7).all (fun j => decide ((putOct (numP H j) (lenP j)).2 = 0)) = true from h) i (List.mem_range.2 c5))))])
          obtain ⟨p, hp⟩ : ∃ p, posP i = p := ⟨_, rfl⟩
          obtain ⟨q, hq⟩ : ∃ q, lenP i = q := ⟨_, rfl⟩
          obtain ⟨v, hv⟩ : ∃ v, numP H i = v := ⟨_, rfl⟩
          rw [hp] at k2 HE hr4
          rw [hq] at k3 HP HQ HE HER2 HNO hr4 hr5
          rw [hv] at k1 HP HQ HE HER2 HNO
          have HPO := Lib.hid (show ∀ u, Calls Tryd.prog 22 #[.int .i64 v, .int .i64 (q : Int)] u fun x u' => x = .returned (.tuple #[.string (B (putOct v q).1), .int .i64 (putOct v q).2]) ∧ Only (fun _ => False) u u' from fun u => HP.out u)
          obtain ⟨s, hs⟩ : ∃ s, (putOct v q).1 = s := ⟨_, rfl⟩
          obtain ⟨e, he⟩ : ∃ e, (putOct v q).2 = e := ⟨_, rfl⟩
          rw [hs, he] at HPO HQ
          rw [hs] at HE
          rw [he] at HER2 HNO
          have HPQ := Lib.hid hr4
          have HQL := Lib.hid hr5.1
          have HK2 := Lib.hid k2
          clear HP hp hq hv hs he hr1 hr2 hr3 hr4 hr5 hr6 HER k2
          have hS0 : wr.cell? ⟨g9, i, none⟩ = some (.int .i64 v) ∧ wr.cell? ⟨g9 + 1, i * 2 + 1, none⟩ = some (.int .i64 (q : Int)) ∧ Only (fun _ => False) wr wr := ⟨k1, k3, Only.refl _ _⟩
          obtain ⟨U, hU⟩ : ∃ U, U = wr := ⟨_, rfl⟩
          rw [← hU] at HOw HBe HTx HTp HK2 hS0 k1 k3 ⊢
          clear hU
          clear wr
          go_upto_region 21 with (fail)
          go_region_held3 (fun u => u.cell? ⟨g9, i, none⟩ = some (.int .i64 v) ∧ u.cell? ⟨g9 + 1, i * 2 + 1, none⟩ = some (.int .i64 (q : Int)) ∧ Only (fun _ => False) U u) (first | exact keep3 hS0 ((Only.refl (fun _ => False) _).drew) | exact keep3 (by assumption) (by assumption)) (first
            | (go_at_call 22; (with_reducible refine (HPO.out _).mono ?_); rintro x u1 ⟨rfl, hO3⟩))
          have HU := Lib.hid ((Only.refl (fun _ => False) U).drew.trans' hO3)
          have x2 := HU.out.cell HK2.out id
          clear hO3 hS0 k1 k3
          by_cases c6 : e = 0
          · have d7 : (e != 0) = false := by rw [c6]; rfl
            have HSL := Lib.hid (HQ.out c6)
            replace HER2 := Lib.hid (HER2.out c6)
            have HCP := Lib.hid (show ¬ cap = p by have := HC.out; have := HPQ.out; have := HQ.out c6; have := HQL.out; omega)
            have q0 : ¬ cap = p := HCP.out
            have q1 : (p : Int) ≤ 512 := by have := HPQ.out; omega
            have q2 : (p : Int) ≤ (cap : Int) := by have := HPQ.out; have := HC.out; omega
            clear c6 HNO HQ
            go_wp2_with (first
              | (with_reducible refine gate 119 rfl ?_
                 refine copy_put rfl (.tmp 117) (.tmp 118) rfl (off := p) rfl s rfl (by have := HSL.out; have := HPQ.out; omega) HN.out (Own.only HOw.out HU.out) (by have := HSL.out; have := HPQ.out; omega) ?_
                 intro u3 hO5 hN5))
            exact ⟨⟨i + 1, putAt T p s, by simp, by omega, Lib.hid (by rw [HE.out, ← HT.out]), Lib.hid (by rw [putAt_len (by have := HN.out; have := HSL.out; have := HPQ.out; omega), HN.out]), Lib.hid hO5,
              Lib.hid ((HBe.out.trans (HU.out.below (B := W.heap.size) HBe.out.size (fun _ hk => hk.elim))).trans (hN5.below (Nat.le_trans HBe.out.size HU.out.size) (fun k hk => by rw [hk]; exact HG.out))), Lib.hid (hN5.keeps (HU.out.keeps HTx.out id) (show ¬ g9 = g by have := HGT2.out; omega)), Lib.hid (hN5.keeps (HU.out.keeps HTp.out id) (show ¬ g9 + 1 = g by have := HGT2.out; omega)), HER2⟩, by simp [intOf]; omega⟩
          · have d7 : (e != 0) = true := bne_iff_ne.mpr c6
            replace HNO := Lib.hid (HNO.out c6)
            clear c6 HER2 HQ
            go_wp2_with fail
            go_ret2
            exact ⟨by rw [HNO.out]; rfl, (HO.out.trans (Only.of_below HBe.out (fun _ => False)) (fun _ hk => hk.elim)).trans' HU.out⟩
        · have d5 : decide ((i : Int) < 7) = false := decide_eq_false (by omega)
          obtain rfl : i = 7 := by omega
          rw [show ((7 : Nat) : Int) = 7 from rfl]
          have d5b : decide ((7 : Int) < 7) = false := rfl
          have HPL := Lib.hid (show putL H = (bodyP H, 0) by
            unfold putL
            rw [if_pos HFA.out, if_pos (show numAll H = true from List.all_eq_true.2 (fun j hj => decide_eq_true (HER.out j (List.mem_range.1 hj))))])
          have HBY := Lib.hid (body_eq HFA.out (fun j hj => HER.out j hj))
          have hb := (HBe.out.block g1 HG1.out).trans HB.out
          have c8 : wr.cell? ⟨g1, 8, none⟩ = some (.int .u8 (H.type.toNat : Int)) := Joins.cell_of_block hb 8
          clear hb HER HH
          have r0 : ¬ cap = 257 := by have := HC.out; omega
          have r1 : (257 : Int) ≤ (cap : Int) := by have := HC.out; omega
          have r2 : ¬ cap = 148 := by have := HC.out; omega
          have r3 : (148 : Int) ≤ (cap : Int) := by have := HC.out; omega
          have LM := Lib.hid (show magic.length = 8 by decide)
          go_upto_region 26 with (first
            | (with_reducible refine gate 122 rfl ?_
               refine copy_put rfl (.tmp 121) (.const (.string ⟨#[117, 115, 116, 97, 114, 0, 48, 48]⟩)) rfl (off := 257) rfl magic rfl (by rw [LM.out]; decide) HN.out HOw.out (by rw [LM.out]; decide) ?_
               intro u3 hO5 hN5))
          have HLM := Lib.hid (show (putAt T 257 magic).length = 512 by rw [putAt_len (by rw [LM.out, HN.out]; decide), HN.out])
          have HBe2 := Lib.hid (HBe.out.trans (hN5.below (B := W.heap.size) HBe.out.size (fun k hk => by rw [hk]; exact HG.out)))
          have HBY2 := Lib.hid (show bodyR H = putAt (putAt (putAt T 257 magic) 156 [H.type]) 148 ((putOct (sumOf (putAt (putAt T 257 magic) 156 [H.type])) 7).1 ++ [32]) by rw [HT.out]; rfl)
          obtain ⟨T1, hT1⟩ : ∃ T1, putAt T 257 magic = T1 := ⟨_, rfl⟩
          rw [hT1] at hO5 HLM HBY2
          have HOw2 := Lib.hid hO5
          replace c8 := (hN5.cell c8 (show ¬ g1 = g by have := HG1.out; have := HG.out; omega))
          clear hT1 hO5 hN5 HOw HBe HTx HTp HN HT
          clear wr T
          have c156 := Own.cell HOw2.out (j := 156) (by rw [ints_len, HLM.out]; decide)
          have f156 := Own.frozen HOw2.out (j := 156) (by decide)
          obtain ⟨y, hy⟩ : ∃ y, (ints T1).getD 156 0 = y := ⟨_, rfl⟩
          rw [hy] at c156
          clear hy
          have hO6 := Own.putn HOw2.out 156 (H.type.toNat : Int)
          rw [show (ints T1).set 156 (H.type.toNat : Int) = ints (putAt T1 156 [H.type]) from set_putAt (by have := HLM.out; omega)] at hO6
          have HB6 := Lib.hid (HBe2.out.setCell (p := ⟨g, 156, none⟩) HG.out (.int .u8 (H.type.toNat : Int)))
          have HL6 := Lib.hid (show (putAt T1 156 [H.type]).length = 512 by rw [putAt_len (by rw [HLM.out]; simp), HLM.out])
          obtain ⟨T2, hT2⟩ : ∃ T2, putAt T1 156 [H.type] = T2 := ⟨_, rfl⟩
          rw [hT2] at hO6 HL6 HBY2
          have HO6 := Lib.hid hO6
          clear hO6 hT2
          have hq : (156 : Int) < 512 := by decide
          go_upto_region 27 with (fail)
          obtain ⟨U, hU⟩ : ∃ U, u3.setCell ⟨g, 156, none⟩ (.int .u8 (H.type.toNat : Int)) = U := ⟨_, rfl⟩
          rw [hU] at HO6 HB6 ⊢
          clear hU c8 c156 f156 hq HOw2 HBe2 HLM
          clear u3 T1
          have HSM := Lib.hid (fun u A c (hR : RdU u A T2) => rsum_any (c := c) HL6.out hR)
          have HZ := Lib.hid (sumOf_in HL6.out)
          obtain ⟨z, hz⟩ : ∃ z, sumOf T2 = z := ⟨_, rfl⟩
          rw [hz] at HBY2 HSM HZ
          clear hz
          have HP := Lib.hid (fun u => rputOctal_any z 7 (by have := HZ.out; omega) (by have := HZ.out; omega) (by decide) (by decide) u)
          have HSL := Lib.hid (putOct_sum HZ.out.1 HZ.out.2)
          have HPO := Lib.hid (show ∀ u, Calls Tryd.prog 22 #[.int .i64 z, .int .i64 7] u fun x u' => x = .returned (.tuple #[.string (B (putOct z 7).1), .int .i64 (putOct z 7).2]) ∧ Only (fun _ => False) u u' from fun u => HP.out u)
          obtain ⟨s, hs⟩ : ∃ s, (putOct z 7).1 = s := ⟨_, rfl⟩
          obtain ⟨e, he⟩ : ∃ e, (putOct z 7).2 = e := ⟨_, rfl⟩
          rw [hs] at HSL HPO HBY2
          rw [he] at HPO
          have HCat := Lib.hid (show B s ++ ⟨#[32]⟩ = B (s ++ [32]) by rw [concat_B, B_data])
          have HRU := Lib.hid (own_rdu HO6.out)
          obtain ⟨D, hD⟩ : ∃ D, B s = D := ⟨_, rfl⟩
          have hsz : ¬ (D.size + (⟨#[32]⟩ : ByteArray).size > 9223372036854775807) := by rw [← hD, B_size, HSL.out]; decide
          rw [hD] at HPO HCat
          clear hs he hD HP
          go_upto_region 29 with (first
            | (go_at_call 10; refine (HSM.out _ _ _ HRU.out).mono ?_; rintro x u0 ⟨rfl, rfl⟩)
            | (go_at_call 22; (with_reducible refine (HPO.out _).mono ?_); rintro x u1 ⟨rfl, hO3⟩; have HU := Lib.hid hO3; clear hO3)
            | (with_reducible refine gate 137 rfl ?_
               refine copy_put rfl (.tmp 134) (.tmp 136) rfl (off := 148) rfl (s ++ [32]) (congrArg Value.string HCat.out) (by rw [List.length_append, HSL.out]; decide) HL6.out (Own.only HO6.out HU.out) (by rw [List.length_append, HSL.out]; decide) ?_
               intro u4 hO7 hN7))
          have HLN := Lib.hid (show (putAt T2 148 (s ++ [32])).length = 512 by rw [putAt_len (by rw [List.length_append, HSL.out, HL6.out]; decide), HL6.out])
          have hcv := str_u cap (own_rdu hO7) HLN.out
          have HEnd := Lib.hid (((HO.out.trans (Only.of_below HB6.out (fun _ => False)) (fun _ hk => hk.elim)).trans' HU.out).trans hN7 (fun k hk => Or.inr (by rw [hk]; exact Nat.le_trans HO.out.size HG.out)))
          clear hO7 hN7 HU HB6
          go_wp2_with fail
          go_ret2
          exact ⟨by rw [HPL.out, HBY.out, HBY2.out]; rfl, HEnd.out⟩
end Go.Proofs.YtggjdfnkmhlliaaDoor.Walks
