/- Contract of Push: what is pushed stands behind all else, in memory of the feed's own. -/
import Derived.Test.YtplabbnmongbaaaWr
import Derived.Laws.MakeOwn
namespace Go.Proofs.Ytplabbnmongbaaa.Walks
open Go Go.RowKit Go.Proofs.Ytplabbnmongbaaa.Aid

/-- A slice of bytes that reads as a list. -/
def Rd (w : World) (A : Option Addr) (l : List Int) : Prop := 0 < l.length → ∃ ad, A = some ad ∧ ∀ j, j < l.length → w.cell? (ad.add j) = some (.int .u8 (l.getD j 0))
theorem Held.rd {w : World} {A : Option Addr} {l : List Int} (h : Held w A l) : Rd w A l := fun hl => by
  obtain ⟨b, o, cs, e, hb, hc⟩ := h hl
  exact ⟨_, e, fun j hj => by rw [add_flat, Joins.cell_of_block hb]; exact hc j hj⟩
theorem Rd.below {w w' : World} {A : Option Addr} {l : List Int} (h : Rd w A l) (hb : Below w.heap.size w w') : Rd w' A l := fun hl => by
  obtain ⟨ad, e, hc⟩ := h hl
  exact ⟨ad, e, fun j hj => (hb.cell (World.block_lt_of_cell? w _ (hc j hj))).trans (hc j hj)⟩
def ints (l : List Int) : List Value := l.map (Value.int .u8)
theorem ints_get {l : List Int} {j : Nat} {v : Value} (h : (ints l)[j]? = some v) : j < l.length ∧ v = .int .u8 (l.getD j 0) := by
  unfold ints at h
  rw [List.getElem?_map] at h
  cases hq : l[j]? with
  | none => rw [hq] at h; cases h
  | some c =>
    rw [hq] at h
    have := (List.getElem?_eq_some_iff.1 hq).1
    refine ⟨this, ?_⟩
    rw [List.getD_eq_getElem?_getD, hq]
    simpa using h.symm
theorem ints_length (l : List Int) : (ints l).length = l.length := by simp [ints]
theorem ints_one (l : List Int) : ∀ v ∈ ints l, v.oneCell' = true := by
  intro v hv
  obtain ⟨c, _, rfl⟩ := List.mem_map.1 hv
  rfl
/-- The feed's bytes don't lie in the block b. -/
def Far (w : World) (g b : Nat) : Prop := ∀ A n c x1 x2 x3, w.heap[g]? = some (.cells #[.slice A n c, x1, x2, x3] 44 (0, 0)) → 0 < n → ∀ a, A = some a → a.block ≠ b
def PushPost (w : World) (g : Nat) (P m : List Int) (k : Nat) (e : Bool) (x : Ending) (w' : World) : Prop :=
  x = .returned (.tuple #[]) ∧ FeedAt w' g (if e then P else P ++ m) k e ∧ Only (· = g) w w' ∧ (e = false → ∀ b, b < w.heap.size → Far w' g b) ∧ (e = true → w' = w)
theorem info5 : (Try.prog.info? 5).map (fun i => (i.zero, i.size, i.bytes)) = some (some (.int .u8 0), 1, 1) := by kernel_rfl
theorem make_u8 (n : Nat) (hn : n ≤ 2000000) : ∀ W : World, (Instr.makeSlice 22 (.int .i64 (n : Int)) (.int .i64 (n : Int))).run Try.prog W = .ok (.slice (some ⟨W.heap.size, 0, none⟩) n n) (W.alloc (.cells (madeCells #[.int .u8 0] n) 5)) := by
  intro W
  obtain ⟨i0, hi, hz⟩ := Option.map_eq_some_iff.1 info5
  simp only [Prod.mk.injEq] at hz
  obtain ⟨hz0, hz1, hz2⟩ := hz
  have := run_make (P := Try.prog) W 22 5 i0 _ Try.underlying22 hi hz0 .i64 .i64 (n : Int) (n : Int) (by omega) (by omega) (by rw [hz2]; omega) (by omega)
  rw [this, hz1, Int.toNat_natCast, Nat.mul_one]
  rfl
theorem size5 : (Try.prog.info? 5).map (·.size) = some 1 := by kernel_rfl
theorem copy_src {W : World} {A : Option Addr} {l : List Int} {x : Addr} (h : Rd W A l) : 0 < (ints l).length → (some x) = some x ∧ ∃ ad, A = some ad ∧ ∀ j v, (ints l)[j]? = some v → W.cell? (ad.add j) = some v := by
  intro hp
  rw [ints_length] at hp
  obtain ⟨ad, e, hcs⟩ := h hp
  exact ⟨rfl, ad, e, fun j v hv => by obtain ⟨hj, rfl⟩ := ints_get hv; exact hcs j hj⟩
theorem splices {Zl : List Value} {l m : List Int} (hz : Zl.length = l.length + m.length) : splice (splice Zl 0 (ints l)) l.length (ints m) = ints (l ++ m) := by
  unfold splice
  have e1 : (ints l).length = l.length := ints_length l
  have e2 : (ints m).length = m.length := ints_length m
  rw [List.take_zero, List.nil_append, Nat.zero_add, List.take_append_of_le_length (by omega), List.take_of_length_le (by omega), e1, e2]
  rw [List.drop_eq_nil_of_le (by simp; omega), List.append_nil]
  simp [ints]
theorem splice1 {Zl : List Value} {l : List Int} (hz : Zl.length = l.length) : splice Zl 0 (ints l) = ints l := by
  unfold splice
  rw [List.take_zero, List.nil_append, Nat.zero_add, List.drop_eq_nil_of_le (by rw [ints_length]; omega), List.append_nil]
theorem ints_at {l : List Int} {j : Nat} (hj : j < l.length) : (ints l).toArray[0 + j]? = some (.int .u8 (l.getD j 0)) := by
  simp [ints, List.getD_eq_getElem?_getD, hj]
theorem feed_push {w W : World} {g : Nat} {P m : List Int} {k : Nat} (h : FeedAt w g P k false) (hb2 : ∀ c ∈ m, 0 ≤ c ∧ c < 256) (hs : P.length + m.length ≤ 1000000) {L : Nat} (hL : L = (P.drop (k / 8)).length + m.length)
    (hG : W.heap[w.heap.size]? = some (.cells (ints (P.drop (k / 8) ++ m)).toArray 5 (0, 0))) (hB : Below w.heap.size w W) :
    PushPost w g P m k false (.returned (.tuple #[])) (W.setCell ⟨g, 0, none⟩ (.slice (some ⟨w.heap.size, 0, none⟩) L L)) := by
  obtain ⟨⟨A, cap, h1, h2, h3⟩, h4, h5, h6⟩ := h
  have hlt := Only.heap_lt h1
  have hne : w.heap.size ≠ g := by omega
  have e : (P ++ m).drop (k / 8) = P.drop (k / 8) ++ m := List.drop_append_of_le_length (by omega)
  have ho : Only (· = g) w (W.setCell ⟨g, 0, none⟩ (.slice (some ⟨w.heap.size, 0, none⟩) L L)) := (Only.of_below hB (· = g)).setCell (S := (· = g)) (p := ⟨g, 0, none⟩) (Or.inl rfl) _
  have hg1 := Joins.block_setCell (i := 0) ((hB.block g hlt).trans h1) (.slice (some ⟨w.heap.size, 0, none⟩) L L)
  have hb1 : (W.setCell ⟨g, 0, none⟩ (.slice (some ⟨w.heap.size, 0, none⟩) L L)).heap[w.heap.size]? = some (.cells (ints (P.drop (k / 8) ++ m)).toArray 5 (0, 0)) := (Below.heap_setCell W ⟨g, 0, none⟩ _ _ hne).trans hG
  refine ⟨rfl, ⟨⟨some ⟨w.heap.size, 0, none⟩, L, ?_, ?_, ?_⟩, by simp; omega, by simp; omega, ?_⟩, ho, fun _ b hb A' n' c' x1 x2 x3 hq _ a ha => ?_, fun h => by cases h⟩
  · simp only [Bool.false_eq_true, if_false]
    rw [e, List.length_append, ← hL]; exact hg1
  · simp only [Bool.false_eq_true, if_false]
    rw [e, List.length_append, ← hL]; exact Nat.le_refl _
  · intro _
    simp only [Bool.false_eq_true, if_false]
    rw [e]
    exact ⟨w.heap.size, 0, _, rfl, hb1, fun j hj => ints_at hj⟩
  · intro c hc
    simp only [Bool.false_eq_true, if_false] at hc
    rcases List.mem_append.1 hc with h | h
    · exact h6 c h
    · exact hb2 c h
  · rw [hg1] at hq
    subst ha
    simp only [Option.some.injEq, Obj.cells.injEq] at hq
    have h0 := congrArg (fun z => z[0]?) hq.1
    simp at h0
    rw [← h0.1]
    show w.heap.size ≠ b
    omega
set_option maxHeartbeats 1000000 in
theorem push_none {w : World} {g : Nat} {P : List Int} {k : Nat} (h : FeedAt w g P k false) (A2 : Option Addr) (c2 : Nat) :
    Calls Try.prog 7 #[.pointer (some ⟨g, 0, none⟩), .slice A2 0 c2] w (PushPost w g P [] k false) := by
  have HF := Lib.hid h
  obtain ⟨⟨A, cap, hb, hc, hh⟩, hle, hsm, hby⟩ := h
  have q0 : w.cell? ⟨g, 0, none⟩ = _ := Joins.cell_of_block hb 0
  have q3 : w.cell? ⟨g, 3, none⟩ = _ := Joins.cell_of_block hb 3
  simp only [List.getElem?_toArray, List.getElem?_cons_zero, List.getElem?_cons_succ] at q0 q3
  have f0 := Joins.unfrozen_of_block hb 0
  have hlt := Only.heap_lt hb
  have HB := Lib.hid hb
  have HH := Lib.hid hh
  have hl : (P.drop (k / 8)).length = P.length - k / 8 := List.length_drop
  obtain ⟨l, hle2⟩ : ∃ l, l = P.drop (k / 8) := ⟨_, rfl⟩
  rw [← hle2] at q0 hc hl
  have HL := Lib.hid hle2
  have bl : l.length ≤ P.length := by omega
  have HX := Lib.hid (And.intro hle (And.intro hsm hby))
  clear hb hh hby hle2 hl hle
  have hmk := make_u8 (l.length) (by omega)
  obtain ⟨Zl, hZl⟩ : ∃ Zl : List Value, Zl = (madeCells #[Value.int .u8 0] (l.length)).toList := ⟨_, rfl⟩
  have hZn : Zl.length = l.length := by rw [hZl]; simp [size_madeCells]
  have HZ := Lib.hid (show (w.alloc (.cells (madeCells #[Value.int .u8 0] (l.length)) 5)).heap[w.heap.size]? = some (.cells Zl.toArray 5 (0, 0)) by rw [alloc_new, hZl])
  have HZN := Lib.hid hZn
  clear hZl hZn
  have RL : Hid (Rd w A l) := Lib.hid (by have := HH.out.rd; rw [← HL.out] at this; exact this)
  have S2 := Lib.hid (show (ints l).length = Nat.min l.length (l.length) by rw [ints_length]; simp)
  have S3 := Lib.hid (copy_src (x := (⟨w.heap.size, 0, none⟩ : Addr)) (RL.out.below (Below.alloc (Below.refl _ _) (Nat.le_refl _) (.cells (madeCells #[Value.int .u8 0] (l.length)) 5))))
  have S4 := Lib.hid (show 0 + (ints l).length ≤ Zl.length by rw [ints_length, HZN.out]; omega)
  have hcn : ∀ W : World, (Builtin.copy_ #[22, 22] 3 #[.slice (some ⟨w.heap.size, 0, none⟩) 0 0, .slice A2 0 c2]).run Try.prog W = .ok (goInt 0) W := fun W => run_copy_none W 22 22 3 5 _ _ _ _ _ _ Try.underlying22 size5 rfl
  go_enter Try.func7, Try.ntmps7
  go_wp2_with ((with_reducible refine gate 27 rfl ?_); (refine wpList_copy_splice rfl (.tmp 22) (.tmp 26) 22 22 rfl 5 Try.underlying22 size5 (some ⟨w.heap.size, 0, none⟩) A (l.length) (l.length) l.length cap rfl rfl w.heap.size 0 Zl 5 HZ.out (ints l) S2.out S3.out S4.out (ints_one l) w.heap.size w ((Below.refl _ _).alloc (Nat.le_refl _) _) (Nat.le_refl _) ?_); intro w2 HG2 hB2; have q0' : w2.cell? ⟨g, 0, none⟩ = some (.slice A l.length cap) := (hB2.cell (p := ⟨g, 0, none⟩) hlt).trans q0; have f0' : w2.frozen? ⟨g, 0, none⟩ = false := (hB2.frozen (p := ⟨g, 0, none⟩) hlt).trans f0)
  go_end0
  refine feed_push HF.out (fun _ hc => by cases hc) (by simpa using hsm) (by rw [HL.out]; simp) ?_ hB2
  rw [List.append_nil, ← HL.out, ← splice1 HZN.out]
  exact HG2.out
set_option maxHeartbeats 1000000 in
theorem push_some {w : World} {g : Nat} {P : List Int} {k : Nat} (h : FeedAt w g P k false) (A2 : Option Addr) (m : List Int) (c2 M : Nat) (hM : M = m.length) (hM0 : ¬ M = 0) (hm : Rd w A2 m) (hb2 : ∀ c ∈ m, 0 ≤ c ∧ c < 256) (hs : P.length + M ≤ 1000000) :
    Calls Try.prog 7 #[.pointer (some ⟨g, 0, none⟩), .slice A2 M c2] w (PushPost w g P m k false) := by
  have HF := Lib.hid h
  obtain ⟨⟨A, cap, hb, hc, hh⟩, hle, hsm, hby⟩ := h
  have q0 : w.cell? ⟨g, 0, none⟩ = _ := Joins.cell_of_block hb 0
  have q3 : w.cell? ⟨g, 3, none⟩ = _ := Joins.cell_of_block hb 3
  simp only [List.getElem?_toArray, List.getElem?_cons_zero, List.getElem?_cons_succ] at q0 q3
  have f0 := Joins.unfrozen_of_block hb 0
  have hlt := Only.heap_lt hb
  have HB := Lib.hid hb
  have HH := Lib.hid hh
  have hl : (P.drop (k / 8)).length = P.length - k / 8 := List.length_drop
  obtain ⟨l, hle2⟩ : ∃ l, l = P.drop (k / 8) := ⟨_, rfl⟩
  rw [← hle2] at q0 hc hl
  have HL := Lib.hid hle2
  have bl : l.length ≤ P.length := by omega
  have HX := Lib.hid (And.intro hle (And.intro hsm hby))
  clear hb hh hby hle2 hl hle
  have HM := Lib.hid hm
  have HM2 := Lib.hid hM
  clear hm hM
  have hmk := make_u8 (l.length + M) (by omega)
  obtain ⟨Zl, hZl⟩ : ∃ Zl : List Value, Zl = (madeCells #[Value.int .u8 0] (l.length + M)).toList := ⟨_, rfl⟩
  have hZn : Zl.length = l.length + M := by rw [hZl]; simp [size_madeCells]
  have HZ := Lib.hid (show (w.alloc (.cells (madeCells #[Value.int .u8 0] (l.length + M)) 5)).heap[w.heap.size]? = some (.cells Zl.toArray 5 (0, 0)) by rw [alloc_new, hZl])
  have HZN := Lib.hid hZn
  clear hZl hZn
  have RL : Hid (Rd w A l) := Lib.hid (by have := HH.out.rd; rw [← HL.out] at this; exact this)
  have S2 := Lib.hid (show (ints l).length = Nat.min l.length (l.length + M) by rw [ints_length]; simp)
  have S3 := Lib.hid (copy_src (x := (⟨w.heap.size, 0, none⟩ : Addr)) (RL.out.below (Below.alloc (Below.refl _ _) (Nat.le_refl _) (.cells (madeCells #[Value.int .u8 0] (l.length + M)) 5))))
  have S4 := Lib.hid (show 0 + (ints l).length ≤ Zl.length by rw [ints_length, HZN.out]; omega)
  have mk2 : ((l.length + M : Nat) : Int) = (l.length : Int) + (M : Int) := by omega
  rw [mk2] at hmk
  clear mk2
  have HY := Lib.hid hb2
  clear hb2
  go_enter Try.func7, Try.ntmps7
  have T2 := Lib.hid (show (ints m).length = Nat.min M M by rw [ints_length, ← HM2.out]; simp)
  have T4 := Lib.hid (show l.length + (ints m).length ≤ (splice Zl 0 (ints l)).length by rw [length_splice _ _ _ S4.out, ints_length, HZN.out, ← HM2.out]; omega)
  go_wp2_with (first | ((with_reducible refine gate 27 rfl ?_); (refine wpList_copy_splice rfl (.tmp 22) (.tmp 26) 22 22 rfl 5 Try.underlying22 size5 (some ⟨w.heap.size, 0, none⟩) A (l.length + M) (l.length + M) l.length cap rfl rfl w.heap.size 0 Zl 5 HZ.out (ints l) S2.out S3.out S4.out (ints_one l) w.heap.size w ((Below.refl _ _).alloc (Nat.le_refl _) _) (Nat.le_refl _) ?_); intro w2 HG2 hB2; have q0' : w2.cell? ⟨g, 0, none⟩ = some (.slice A l.length cap) := (hB2.cell (p := ⟨g, 0, none⟩) hlt).trans q0; have f0' : w2.frozen? ⟨g, 0, none⟩ = false := (hB2.frozen (p := ⟨g, 0, none⟩) hlt).trans f0) | ((with_reducible refine gate 36 rfl ?_); (refine wpList_copy_splice rfl (.tmp 34) (.tmp 35) 22 22 rfl 5 Try.underlying22 size5 (some ⟨w.heap.size, l.length, none⟩) A2 M M M c2 rfl rfl w.heap.size l.length (splice Zl 0 (ints l)) 5 HG2.out (ints m) T2.out (copy_src (HM.out.below hB2)) T4.out (ints_one m) w.heap.size w hB2 (Nat.le_refl _) ?_); intro w3 HG3 hB3; have q0'' : w3.cell? ⟨g, 0, none⟩ = some (.slice A l.length cap) := (hB3.cell (p := ⟨g, 0, none⟩) hlt).trans q0; have f0'' : w3.frozen? ⟨g, 0, none⟩ = false := (hB3.frozen (p := ⟨g, 0, none⟩) hlt).trans f0))
  go_end0
  refine feed_push HF.out HY.out (by rw [← HM2.out]; exact hs) (by rw [HL.out, HM2.out]) ?_ hB3
  rw [← HL.out, ← splices (Zl := Zl) (by rw [HZN.out, HM2.out])]
  exact HG3.out
theorem push_any {w : World} {g : Nat} {P : List Int} {k : Nat} {e : Bool} (h : FeedAt w g P k e) (A2 : Option Addr) (m : List Int) (c2 : Nat) (hm : Rd w A2 m) (hb2 : ∀ c ∈ m, 0 ≤ c ∧ c < 256) (hs : P.length + m.length ≤ 1000000) :
    Calls Try.prog 7 #[.pointer (some ⟨g, 0, none⟩), .slice A2 m.length c2] w (PushPost w g P m k e) := by
  cases e
  · by_cases h0 : m = []
    · subst h0; exact push_none h A2 c2
    · exact push_some h A2 m c2 m.length rfl (fun e => h0 (List.eq_nil_of_length_eq_zero e)) hm hb2 hs
  · have HF := Lib.hid h
    obtain ⟨⟨A, cap, hb, hc, hh⟩, hle, hsm, hby⟩ := h
    have q3 : w.cell? ⟨g, 3, none⟩ = _ := Joins.cell_of_block hb 3
    simp only [List.getElem?_toArray, List.getElem?_cons_zero, List.getElem?_cons_succ] at q3
    clear hb hh hby
    go_enter Try.func7, Try.ntmps7
    go_wp2_with fail
    refine bodyPost_ret (results_none rfl _ _ _) rfl ?_
    exact ⟨rfl, HF.out, Only.refl _ _, fun h => absurd h (by decide), fun _ => rfl⟩
end Go.Proofs.Ytplabbnmongbaaa.Walks
