/- Contracts of Part, Join and of the reference's. -/
import Derived.Test.YtggjdfnkmhlliaaDoorPut
namespace Go.Proofs.YtggjdfnkmhlliaaDoor.Walks
open Go Go.RowKit Go.Proofs.YtggjdfnkmhlliaaDoor.Aid Go.Proofs.YtggjdfnkmhlliaaDoor.Own Go.Proofs.YtggjdfnkmhlliaaDoorW.PrintWords

def okAt (l : Str) (i : Nat) : Bool := decide (l.getD i 0 = 47) && (decide (l.length - i ≤ 101) && decide (2 ≤ l.length - i))
def findP (l : Str) : Option Nat := (List.range l.length).find? (okAt l)
def cutAt (l : Str) (i : Nat) : Str × Str × Bool := if 1 ≤ i ∧ i ≤ 155 then (l.take i, l.drop (i + 1), true) else ([], [], false)
def partL (l : Str) : Str × Str × Bool := if l.length ≤ 100 then ([], l, true) else match findP l with
  | none => ([], [], false)
  | some i => cutAt l i
theorem partL_at {l : Str} {i : Nat} (h : ¬ l.length ≤ 100) (hi : i < l.length) (hk : okAt l i = true) (hn : ∀ j, j < i → okAt l j = false) : partL l = cutAt l i := by
  have e : findP l = some i := List.find?_range_eq_some.2 ⟨hk, List.mem_range.2 hi, fun j hj => by rw [hn j hj]; rfl⟩
  unfold partL
  rw [if_neg h, e]
theorem partL_none {l : Str} (h : ¬ l.length ≤ 100) (hn : ∀ j, j < l.length → okAt l j = false) : partL l = ([], [], false) := by
  have e : findP l = none := List.find?_eq_none.2 (fun j hj => by rw [hn j (List.mem_range.1 hj)]; exact Bool.false_ne_true)
  unfold partL
  rw [if_neg h, e]
theorem okAt_far {l : Str} {i : Nat} (h : i < l.length - 101) : okAt l i = false := by
  unfold okAt
  rw [decide_eq_false (show ¬ l.length - i ≤ 101 by omega), Bool.false_and, Bool.and_false]
theorem okAt_other {l : Str} {i : Nat} (h : ¬ l.getD i 0 = 47) : okAt l i = false := by
  unfold okAt
  rw [decide_eq_false h, Bool.false_and]
theorem okAt_last {l : Str} {i : Nat} (h : l.length - i < 2) : okAt l i = false := by
  unfold okAt
  rw [decide_eq_false (show ¬ 2 ≤ l.length - i by omega), Bool.and_false, Bool.and_false]
theorem okAt_long {l : Str} {i : Nat} (h : 101 < l.length - i) : okAt l i = false := by
  unfold okAt
  rw [decide_eq_false (show ¬ l.length - i ≤ 101 by omega), Bool.false_and, Bool.and_false]
theorem okAt_yes {l : Str} {i : Nat} (h : l.getD i 0 = 47) (h1 : l.length - i ≤ 101) (h2 : 2 ≤ l.length - i) : okAt l i = true := by
  unfold okAt
  rw [decide_eq_true h, decide_eq_true h1, decide_eq_true h2]; rfl
def PartPost (l : Str) (w : World) (x : Ending) (w' : World) : Prop := x = .returned (.tuple #[.string (B (partL l).1), .string (B (partL l).2.1), .bool (partL l).2.2]) ∧ Only (fun _ => False) w w'
theorem part_end {l : Str} {w w' : World} {x : Ending} {p q : Str} {b : Bool} (h : partL l = (p, q, b)) (hx : x = .returned (.tuple #[.string (B p), .string (B q), .bool b])) (ho : Only (fun _ => False) w w') : PartPost l w x w' :=
  ⟨by rw [h, hx], ho⟩
def joinL (H : Hdr) : Str := if H.pre = [] then H.name else H.pre ++ [47] ++ H.name
def JoinPost (H : Hdr) (w : World) (x : Ending) (w' : World) : Prop := x = .returned (.string (B (joinL H))) ∧ Only (fun _ => False) w w'
theorem part_cut {S : ByteArray} {l : Str} {i : Nat} (h : S.data.toList = l) (hs : S.size = l.length) : Ending.returned (.tuple #[.string (S.extract 0 i), .string (S.extract (i + 1) S.size), .bool true]) = Ending.returned (.tuple #[.string (B (l.take i)), .string (B (l.drop (i + 1))), .bool true]) := by
  rw [extract_B, extract_B, h, List.drop_zero, Nat.sub_zero, List.take_of_length_le (l := l.drop (i + 1)) (by rw [List.length_drop]; omega)]
set_option maxHeartbeats 4000000 in
theorem part_any (l : Str) (w : World) (hl : l.length ≤ 1000) : Calls Tryd.prog 17 #[.string (B l)] w (PartPost l w) := by
  obtain ⟨S, hS⟩ : ∃ S, B l = S := ⟨_, rfl⟩
  have HSS := Lib.hid (show S.size = l.length by rw [← hS, B_size])
  have HSd := Lib.hid (show S.data.toList = l by rw [← hS, B_data])
  have HSB := Lib.hid hS
  have b1 : S.size ≤ 1000 := by rw [HSS.out]; exact hl
  rw [hS]
  clear hS
  by_cases c1 : l.length ≤ 100
  · have d1 : decide ((S.size : Int) ≤ 100) = true := decide_eq_true (by have := HSS.out; omega)
    have d2 : decide (S.size ≤ 100) = true := decide_eq_true (by have := HSS.out; omega)
    have HP := Lib.hid (show partL l = ([], l, true) from if_pos c1)
    clear c1
    go_enter Tryd.func17, Tryd.ntmps17
    go_wp2_with fail
    go_ret3
    exact part_end HP.out (by rw [HSB.out]; rfl) (Only.refl _ _)
  · have d1 : decide ((S.size : Int) ≤ 100) = false := decide_eq_false (by have := HSS.out; omega)
    have d2 : decide (S.size ≤ 100) = false := decide_eq_false (by have := HSS.out; omega)
    have HN := Lib.hid c1
    have b2 : 100 < S.size := by have := HSS.out; omega
    have b3 : (100 : Int) < (S.size : Int) := by omega
    clear c1
    go_enter Tryd.func17, Tryd.ntmps17
    go_wp2_with fail
    go_loopw [5] (fun v5 u => ∃ i : Nat, v5 = .int .i64 (i : Int) ∧ i ≤ S.size ∧ S.size ≤ i + 101 ∧ Hid (∀ j, j < i → okAt l j = false) ∧ w = u) (fun i _ => S.size - (intOf i).toNat)
    case atStart => exact ⟨S.size - 101, congrArg (Value.int .i64) (by omega), by omega, by omega, Lib.hid (fun j hj => okAt_far (by have := HSS.out; omega)), rfl⟩
    case round =>
      obtain ⟨i, rfl, hi, hi2, HNO, rfl⟩ := hrel
      by_cases c2 : i < S.size
      · have e1 : decide ((i : Int) < (S.size : Int)) = true := decide_eq_true (by omega)
        have e2 : decide (i < S.size) = true := decide_eq_true c2
        have hx := index_at c2
        rw [HSd.out] at hx
        obtain ⟨x, hxx⟩ : ∃ x, l.getD i 0 = x := ⟨_, rfl⟩
        rw [hxx] at hx
        have HX := Lib.hid hxx
        clear hxx
        have t1 := byte_eq (x := x) (y := 47) 47 rfl
        have t2 : ((x.toNat : Int) != 47) = !decide (x = 47) := by rw [bne, t1]
        by_cases c3 : x = 47
        · rw [decide_eq_true c3] at t1 t2
          replace t2 : ((x.toNat : Int) != 47) = false := t2
          have HX2 := Lib.hid (HX.out.trans c3)
          clear c3
          by_cases c4 : i + 1 = S.size
          · have e3 : ((i : Int) + 1 == (S.size : Int)) = true := beq_iff_eq.mpr (by omega)
            have HN2 := Lib.hid (show ∀ j, j < i + 1 → okAt l j = false from fun j hj => by
              by_cases e : j = i
              · rw [e]; exact okAt_last (by have := HSS.out; omega)
              · exact HNO.out j (by omega))
            clear c4
            go_wp2_with fail
            exact ⟨⟨i + 1, by simp, by omega, by omega, HN2, by trivial⟩, by simp [intOf]; omega⟩
          · have e3 : ((i : Int) + 1 == (S.size : Int)) = false := beq_eq_false_iff_ne.mpr (by omega)
            have HPL := Lib.hid (partL_at HN.out (by have := HSS.out; omega) (okAt_yes HX2.out (by have := HSS.out; omega) (by have := HSS.out; omega)) HNO.out)
            have HI := Lib.hid (show i + 1 < S.size by omega)
            clear c4
            by_cases c5 : i < 1
            · have e5 : decide ((i : Int) < 1) = true := decide_eq_true (by omega)
              have HR := Lib.hid (HPL.out.trans (if_neg (by omega)))
              clear c5
              go_wp2_with fail
              go_ret3
              exact part_end HR.out rfl (Only.refl _ _)
            · have e5 : decide ((i : Int) < 1) = false := decide_eq_false (by omega)
              by_cases c6 : i > 155
              · have e6 : decide ((i : Int) > 155) = true := decide_eq_true (by omega)
                have HR := Lib.hid (HPL.out.trans (if_neg (by omega)))
                clear c5 c6
                go_wp2_with fail
                go_ret3
                exact part_end HR.out rfl (Only.refl _ _)
              · have e6 : decide ((i : Int) > 155) = false := decide_eq_false (by omega)
                have HR := Lib.hid (HPL.out.trans (if_pos ⟨by omega, by omega⟩))
                have q1 : (i : Int) ≤ (S.size : Int) := by omega
                have q2 : (i : Int) + 1 ≤ (S.size : Int) := by have := HI.out; omega
                have q3 : IntKind.i64.wrap ((i : Int) + 1) = (i : Int) + 1 := by rw [IntKind.wrap_i64]; omega
                have q4 : ((i : Int) + 1).toNat = i + 1 := by omega
                have q5 : (0 : Int) ≤ (i : Int) + 1 := by omega
                clear c5 c6
                go_upto_region 9 with (fail)
                go_quiet (fail)
                go_wp2_with fail
                go_ret3
                exact part_end HR.out (part_cut HSd.out HSS.out) ((Only.refl _ _).drewN _)
        · rw [decide_eq_false c3] at t1 t2
          replace t2 : ((x.toNat : Int) != 47) = true := t2
          have HN2 := Lib.hid (show ∀ j, j < i + 1 → okAt l j = false from fun j hj => by
            by_cases e : j = i
            · rw [e]; exact okAt_other (by rw [HX.out]; exact c3)
            · exact HNO.out j (by omega))
          clear c3
          go_wp2_with fail
          exact ⟨⟨i + 1, by simp, by omega, by omega, HN2, by trivial⟩, by simp [intOf]; omega⟩
      · have e1 : decide ((i : Int) < (S.size : Int)) = false := decide_eq_false (by omega)
        have e2 : decide (i < S.size) = false := decide_eq_false c2
        obtain rfl : i = S.size := by omega
        have HPL := Lib.hid (partL_none HN.out (fun j hj => HNO.out j (by have := HSS.out; omega)))
        go_wp2_with fail
        go_ret3
        exact part_end HPL.out rfl (Only.refl _ _)
set_option maxHeartbeats 4000000 in
theorem rpart_any (l : Str) (w : World) (hl : l.length ≤ 1000) : Calls Tryd.prog 18 #[.string (B l)] w (PartPost l w) := by
  obtain ⟨S, hS⟩ : ∃ S, B l = S := ⟨_, rfl⟩
  have HSS := Lib.hid (show S.size = l.length by rw [← hS, B_size])
  have HSd := Lib.hid (show S.data.toList = l by rw [← hS, B_data])
  have HSB := Lib.hid hS
  have b1 : S.size ≤ 1000 := by rw [HSS.out]; exact hl
  rw [hS]
  clear hS
  by_cases c1 : l.length ≤ 100
  · have d1 : decide ((S.size : Int) ≤ 100) = true := decide_eq_true (by have := HSS.out; omega)
    have d2 : decide (S.size ≤ 100) = true := decide_eq_true (by have := HSS.out; omega)
    have HP := Lib.hid (show partL l = ([], l, true) from if_pos c1)
    clear c1
    go_enter Tryd.func18, Tryd.ntmps18
    go_wp2_with fail
    go_ret3
    exact part_end HP.out (by rw [HSB.out]; rfl) (Only.refl _ _)
  · have d1 : decide ((S.size : Int) ≤ 100) = false := decide_eq_false (by have := HSS.out; omega)
    have d2 : decide (S.size ≤ 100) = false := decide_eq_false (by have := HSS.out; omega)
    have HN := Lib.hid c1
    have b2 : 100 < S.size := by have := HSS.out; omega
    have b3 : (100 : Int) < (S.size : Int) := by omega
    clear c1
    go_enter Tryd.func18, Tryd.ntmps18
    go_wp2_with fail
    go_loopw [5] (fun v5 u => ∃ i : Nat, v5 = .int .i64 (i : Int) ∧ i ≤ S.size ∧ Hid (∀ j, j < i → okAt l j = false) ∧ w = u) (fun i _ => S.size - (intOf i).toNat)
    case atStart => exact ⟨0, rfl, by omega, Lib.hid (fun j hj => absurd hj (by omega)), rfl⟩
    case round =>
      obtain ⟨i, rfl, hi, HNO, rfl⟩ := hrel
      by_cases c2 : i < S.size
      · have e1 : decide ((i : Int) < (S.size : Int)) = true := decide_eq_true (by omega)
        have e2 : decide (i < S.size) = true := decide_eq_true c2
        have hx := index_at c2
        rw [HSd.out] at hx
        obtain ⟨x, hxx⟩ : ∃ x, l.getD i 0 = x := ⟨_, rfl⟩
        rw [hxx] at hx
        have HX := Lib.hid hxx
        clear hxx
        have t1 := byte_eq (x := x) (y := 47) 47 rfl
        have t2 : ((x.toNat : Int) != 47) = !decide (x = 47) := by rw [bne, t1]
        by_cases c3 : x = 47
        · rw [decide_eq_true c3] at t1 t2
          replace t2 : ((x.toNat : Int) != 47) = false := t2
          have HX2 := Lib.hid (HX.out.trans c3)
          clear c3
          by_cases c4 : 101 < S.size - i
          · have e3 : decide ((S.size : Int) - (i : Int) > 101) = true := decide_eq_true (by omega)
            have HN2 := Lib.hid (show ∀ j, j < i + 1 → okAt l j = false from fun j hj => by
              by_cases e : j = i
              · rw [e]; exact okAt_long (by have := HSS.out; omega)
              · exact HNO.out j (by omega))
            clear c4
            go_wp2_with fail
            exact ⟨⟨i + 1, by simp, by omega, HN2, by trivial⟩, by simp [intOf]; omega⟩
          · by_cases c9 : S.size - i < 2
            · have e3 : decide ((S.size : Int) - (i : Int) > 101) = false := decide_eq_false (by omega)
              have e4 : decide ((S.size : Int) - (i : Int) < 2) = true := decide_eq_true (by omega)
              have HN2 := Lib.hid (show ∀ j, j < i + 1 → okAt l j = false from fun j hj => by
                by_cases e : j = i
                · rw [e]; exact okAt_last (by have := HSS.out; omega)
                · exact HNO.out j (by omega))
              clear c4 c9
              go_wp2_with fail
              exact ⟨⟨i + 1, by simp, by omega, HN2, by trivial⟩, by simp [intOf]; omega⟩
            · have e3 : decide ((S.size : Int) - (i : Int) > 101) = false := decide_eq_false (by omega)
              have e4 : decide ((S.size : Int) - (i : Int) < 2) = false := decide_eq_false (by omega)
              have HPL := Lib.hid (partL_at HN.out (by have := HSS.out; omega) (okAt_yes HX2.out (by have := HSS.out; omega) (by have := HSS.out; omega)) HNO.out)
              have HI := Lib.hid (show i + 1 < S.size by omega)
              clear c4 c9
              by_cases c5 : i < 1
              · have e5 : decide ((i : Int) < 1) = true := decide_eq_true (by omega)
                have HR := Lib.hid (HPL.out.trans (if_neg (by omega)))
                clear c5
                go_wp2_with fail
                go_ret3
                exact part_end HR.out rfl (Only.refl _ _)
              · have e5 : decide ((i : Int) < 1) = false := decide_eq_false (by omega)
                by_cases c6 : i > 155
                · have e6 : decide ((i : Int) > 155) = true := decide_eq_true (by omega)
                  have HR := Lib.hid (HPL.out.trans (if_neg (by omega)))
                  clear c5 c6
                  go_wp2_with fail
                  go_ret3
                  exact part_end HR.out rfl (Only.refl _ _)
                · have e6 : decide ((i : Int) > 155) = false := decide_eq_false (by omega)
                  have HR := Lib.hid (HPL.out.trans (if_pos ⟨by omega, by omega⟩))
                  have q1 : (i : Int) ≤ (S.size : Int) := by omega
                  have q2 : (i : Int) + 1 ≤ (S.size : Int) := by have := HI.out; omega
                  have q3 : IntKind.i64.wrap ((i : Int) + 1) = (i : Int) + 1 := by rw [IntKind.wrap_i64]; omega
                  have q4 : ((i : Int) + 1).toNat = i + 1 := by omega
                  have q5 : (0 : Int) ≤ (i : Int) + 1 := by omega
                  clear c5 c6
                  go_upto_region 9 with (fail)
                  go_quiet (fail)
                  go_wp2_with fail
                  go_ret3
                  exact part_end HR.out (part_cut HSd.out HSS.out) ((Only.refl _ _).drewN _)
        · rw [decide_eq_false c3] at t1 t2
          replace t2 : ((x.toNat : Int) != 47) = true := t2
          have HN2 := Lib.hid (show ∀ j, j < i + 1 → okAt l j = false from fun j hj => by
            by_cases e : j = i
            · rw [e]; exact okAt_other (by rw [HX.out]; exact c3)
            · exact HNO.out j (by omega))
          clear c3
          go_wp2_with fail
          exact ⟨⟨i + 1, by simp, by omega, HN2, by trivial⟩, by simp [intOf]; omega⟩
      · have e1 : decide ((i : Int) < (S.size : Int)) = false := decide_eq_false (by omega)
        have e2 : decide (i < S.size) = false := decide_eq_false c2
        obtain rfl : i = S.size := by omega
        have HPL := Lib.hid (partL_none HN.out (fun j hj => HNO.out j (by have := HSS.out; omega)))
        go_wp2_with fail
        go_ret3
        exact part_end HPL.out rfl (Only.refl _ _)
set_option maxHeartbeats 4000000 in
theorem join_any (H : Hdr) (w : World) (h1 : H.name.length ≤ 1000) (h2 : H.pre.length ≤ 1000) : Calls Tryd.prog 19 #[hval H] w (JoinPost H w) := by
  have HO := Lib.hid ((Only.refl (fun _ => False) w).alloc (.cells (hrow H) 24))
  have hb := alloc_new w (.cells (hrow H) 24)
  obtain ⟨g1, hg1⟩ : ∃ g1, w.heap.size = g1 := ⟨_, rfl⟩
  obtain ⟨W, hW⟩ : ∃ W, w.alloc (.cells (hrow H) 24) = W := ⟨_, rfl⟩
  rw [hW, hg1] at hb
  rw [hW] at HO
  have HGW := Lib.hid (And.intro hg1 hW)
  have c0 : W.cell? ⟨g1, 0, none⟩ = some (.string (B H.name)) := Joins.cell_of_block hb 0
  have c1 : W.cell? ⟨g1, 1, none⟩ = some (.string (B H.pre)) := Joins.cell_of_block hb 1
  have HJ := Lib.hid (show B H.pre ++ ⟨#[47]⟩ ++ B H.name = B (H.pre ++ [47] ++ H.name) by rw [concat_B, concat_B, B_data, B_data, B_data])
  have m1 := isEmpty_B H.pre
  obtain ⟨S1, hS1⟩ : ∃ S1, B H.name = S1 := ⟨_, rfl⟩
  obtain ⟨S2, hS2⟩ : ∃ S2, B H.pre = S2 := ⟨_, rfl⟩
  have z1 : S1.size ≤ 1000 := by rw [← hS1, B_size]; exact h1
  have z2 : S2.size ≤ 1000 := by rw [← hS2, B_size]; exact h2
  have n1 : ¬ (S2.size + (⟨#[47]⟩ : ByteArray).size > 9223372036854775807) := by
    rw [show (⟨#[47]⟩ : ByteArray).size = 1 from rfl]; omega
  have n2 : ¬ ((S2 ++ ⟨#[47]⟩ : ByteArray).size + S1.size > 9223372036854775807) := by
    rw [ByteArray.size_append, show (⟨#[47]⟩ : ByteArray).size = 1 from rfl]; omega
  rw [hS1] at c0 HJ
  rw [hS2] at c1 HJ m1
  have HS1 := Lib.hid hS1
  clear hg1 hW hb hS1 hS2 h1 h2 z1 z2
  go_enter Tryd.func19, Tryd.ntmps19
  go_upto_region 1 with (fail)
  change Code.wp Tryd.prog _ _ _ (w.alloc (.cells (hrow H) 24))
  rw [HGW.out.2, HGW.out.1]
  by_cases c : H.pre = []
  · rw [decide_eq_true c] at m1
    have HL := Lib.hid (show joinL H = H.name by unfold joinL; rw [if_pos c])
    clear c
    go_wp2_with fail
    go_ret
    exact ⟨by rw [HL.out, HS1.out]; rfl, HO.out⟩
  · rw [decide_eq_false c] at m1
    have HL := Lib.hid (show joinL H = H.pre ++ [47] ++ H.name by unfold joinL; rw [if_neg c])
    clear c
    go_wp2_with fail
    go_ret
    exact ⟨by rw [HL.out, ← HJ.out]; rfl, HO.out⟩
set_option maxHeartbeats 4000000 in
theorem rjoin_any (H : Hdr) (w : World) (h1 : H.name.length ≤ 1000) (h2 : H.pre.length ≤ 1000) : Calls Tryd.prog 20 #[hval H] w (JoinPost H w) := by
  have HO := Lib.hid ((Only.refl (fun _ => False) w).alloc (.cells (hrow H) 24))
  have hb := alloc_new w (.cells (hrow H) 24)
  obtain ⟨g1, hg1⟩ : ∃ g1, w.heap.size = g1 := ⟨_, rfl⟩
  obtain ⟨W, hW⟩ : ∃ W, w.alloc (.cells (hrow H) 24) = W := ⟨_, rfl⟩
  rw [hW, hg1] at hb
  rw [hW] at HO
  have HGW := Lib.hid (And.intro hg1 hW)
  have c0 : W.cell? ⟨g1, 0, none⟩ = some (.string (B H.name)) := Joins.cell_of_block hb 0
  have c1 : W.cell? ⟨g1, 1, none⟩ = some (.string (B H.pre)) := Joins.cell_of_block hb 1
  have HJ := Lib.hid (show B H.pre ++ ⟨#[47]⟩ ++ B H.name = B (H.pre ++ [47] ++ H.name) by rw [concat_B, concat_B, B_data, B_data, B_data])
  have m1 := isEmpty_B H.pre
  obtain ⟨S1, hS1⟩ : ∃ S1, B H.name = S1 := ⟨_, rfl⟩
  obtain ⟨S2, hS2⟩ : ∃ S2, B H.pre = S2 := ⟨_, rfl⟩
  have z1 : S1.size ≤ 1000 := by rw [← hS1, B_size]; exact h1
  have z2 : S2.size ≤ 1000 := by rw [← hS2, B_size]; exact h2
  have n1 : ¬ (S2.size + (⟨#[47]⟩ : ByteArray).size > 9223372036854775807) := by
    rw [show (⟨#[47]⟩ : ByteArray).size = 1 from rfl]; omega
  have n2 : ¬ ((S2 ++ ⟨#[47]⟩ : ByteArray).size + S1.size > 9223372036854775807) := by
    rw [ByteArray.size_append, show (⟨#[47]⟩ : ByteArray).size = 1 from rfl]; omega
  rw [hS1] at c0 HJ
  rw [hS2] at c1 HJ m1
  have HS1 := Lib.hid hS1
  clear hg1 hW hb hS1 hS2 h1 h2 z1 z2
  go_enter Tryd.func20, Tryd.ntmps20
  go_upto_region 1 with (fail)
  change Code.wp Tryd.prog _ _ _ (w.alloc (.cells (hrow H) 24))
  rw [HGW.out.2, HGW.out.1]
  by_cases c : H.pre = []
  · rw [decide_eq_true c] at m1
    have HL := Lib.hid (show joinL H = H.name by unfold joinL; rw [if_pos c])
    clear c
    go_wp2_with fail
    go_ret
    exact ⟨by rw [HL.out, HS1.out]; rfl, HO.out⟩
  · rw [decide_eq_false c] at m1
    have HL := Lib.hid (show joinL H = H.pre ++ [47] ++ H.name by unfold joinL; rw [if_neg c])
    clear c
    go_wp2_with fail
    go_ret
    exact ⟨by rw [HL.out, ← HJ.out]; rfl, HO.out⟩
end Go.Proofs.YtggjdfnkmhlliaaDoor.Walks
