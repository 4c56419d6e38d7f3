/- Plain laws on a header's bytes: Read of Put; one byte turned; one field changed. -/
import Derived.Test.YtggjdfnkmhlliaaDoorBack
namespace Go.Proofs.YtggjdfnkmhlliaaDoor.Walks
open Go Go.RowKit Go.Proofs.YtggjdfnkmhlliaaDoor.Aid Go.Proofs.YtggjdfnkmhlliaaDoor.Own Go.Proofs.YtggjdfnkmhlliaaDoorW.PrintWords

def places : List (Nat × Nat) := [(0, 100), (157, 100), (257, 8), (265, 32), (297, 32), (345, 155), (156, 1), (100, 8), (108, 8), (116, 8), (124, 12), (136, 12), (329, 8), (337, 8), (148, 8)]
def plc (i : Nat) : Nat × Nat := places.getD i (0, 0)
theorem plc_dis : ∀ i, i < 15 → ∀ k, k < 15 → i ≠ k → (plc i).1 + (plc i).2 ≤ (plc k).1 ∨ (plc k).1 + (plc k).2 ≤ (plc i).1 := by decide
theorem plc_le : ∀ i, i < 15 → (plc i).1 + (plc i).2 ≤ 512 := by decide
def Placed (ps : List (Nat × Str)) : Prop := ps.length = 15 ∧ ∀ i, i < 15 → (ps.getD i (0, [])).1 = (plc i).1 ∧ (ps.getD i (0, [])).2.length ≤ (plc i).2
theorem Placed.mem {ps : List (Nat × Str)} (h : Placed ps) {p : Nat × Str} (hp : p ∈ ps) : ∃ i, i < 15 ∧ ps[i]? = some p ∧ p.1 = (plc i).1 ∧ p.2.length ≤ (plc i).2 := by
  obtain ⟨i, hi, rfl⟩ := List.mem_iff_getElem.1 hp
  have hi' : i < 15 := by rw [← h.1]; exact hi
  have := h.2 i hi'
  rw [List.getD_eq_getElem?_getD, List.getElem?_eq_getElem hi] at this
  exact ⟨i, hi', List.getElem?_eq_getElem hi, this⟩
theorem Placed.fit {ps : List (Nat × Str)} (h : Placed ps) : Fit 512 ps := fun p hp => by
  obtain ⟨i, hi, _, h1, h2⟩ := h.mem hp
  have := plc_le i hi
  omega
theorem field_sub {ps : List (Nat × Str)} (h : Placed ps) (k : Nat) (hk : k < 15) : sub (putAll (List.replicate 512 0) ps) (plc k).1 (plc k).2 = (ps.getD k (0, [])).2 ++ List.replicate ((plc k).2 - (ps.getD k (0, [])).2.length) 0 := by
  have hl : k < ps.length := by rw [h.1]; exact hk
  have e0 : ps = ps.take k ++ ps[k] :: ps.drop (k + 1) := by rw [← List.drop_eq_getElem_cons hl, List.take_append_drop]
  have e1 : ps.getD k (0, []) = ps[k] := by rw [List.getD_eq_getElem?_getD, List.getElem?_eq_getElem hl]; rfl
  obtain ⟨h1, h2⟩ := h.2 k hk
  rw [e1] at h1 h2 ⊢
  have e2 : ps[k] = ((plc k).1, ps[k].2) := Prod.ext h1 rfl
  have hd : ∀ i p, ps[i]? = some p → i ≠ k → p.1 + p.2.length ≤ (plc k).1 ∨ (plc k).1 + (plc k).2 ≤ p.1 := fun i p hp hne => by
    have hi := (List.getElem?_eq_some_iff.1 hp).1
    have hi' : i < 15 := by rw [← h.1]; exact hi
    have h3 := h.2 i hi'
    rw [List.getD_eq_getElem?_getD, hp] at h3
    simp only [Option.getD_some] at h3
    have := plc_dis i hi' k hk hne
    omega
  have hF : Fit 512 (ps.take k ++ ((plc k).1, ps[k].2) :: ps.drop (k + 1)) := by rw [← e2, ← e0]; exact h.fit
  have := sub_piece (m := 512) (plc_le k hk) hF h2
    (fun p hp => by
      obtain ⟨i, hi, rfl⟩ := List.mem_iff_getElem.1 hp
      rw [List.length_take] at hi
      exact hd i _ (by rw [List.getElem_take]; exact List.getElem?_eq_getElem _) (by omega))
    (fun p hp => by
      obtain ⟨i, hi, rfl⟩ := List.mem_iff_getElem.1 hp
      rw [List.length_drop] at hi
      exact hd (k + 1 + i) _ (by rw [List.getElem_drop]; exact List.getElem?_eq_getElem _) (by omega))
  rw [← e2, ← e0] at this
  exact this
theorem pieces_placed {H : Hdr} {z : Str} (hf : fitAll H = true) (hn : ∀ j, j < 7 → (putOct (numP H j) (lenP j)).2 = 0) (hz : z.length = 8) : Placed (pieces H z) := by
  have h := (fitAll_iff H).1 hf
  have n0 : H.name.length ≤ 100 := fit_len (h 0 (by decide))
  have n1 : H.pre.length ≤ 155 := fit_len (h 1 (by decide))
  have n2 : H.target.length ≤ 100 := fit_len (h 2 (by decide))
  have n3 : H.user.length ≤ 32 := fit_len (h 3 (by decide))
  have n4 : H.group.length ≤ 32 := fit_len (h 4 (by decide))
  have m (j : Nat) (hj : j < 7) : (putOct (numP H j) (lenP j)).1.length ≤ lenP j := Nat.le_of_eq (putOct_len (numP H j) (lenP j) (hn j hj))
  refine ⟨rfl, fun i hi => ?_⟩
  rcases (show i = 0 ∨ i = 1 ∨ i = 2 ∨ i = 3 ∨ i = 4 ∨ i = 5 ∨ i = 6 ∨ i = 7 ∨ i = 8 ∨ i = 9 ∨ i = 10 ∨ i = 11 ∨ i = 12 ∨ i = 13 ∨ i = 14 by omega) with rfl | rfl | rfl | rfl | rfl | rfl | rfl | rfl | rfl | rfl | rfl | rfl | rfl | rfl | rfl
  · exact ⟨rfl, n0⟩
  · exact ⟨rfl, n2⟩
  · exact ⟨rfl, Nat.le_refl 8⟩
  · exact ⟨rfl, n3⟩
  · exact ⟨rfl, n4⟩
  · exact ⟨rfl, n1⟩
  · exact ⟨rfl, Nat.le_refl 1⟩
  · exact ⟨rfl, m 0 (by decide)⟩
  · exact ⟨rfl, m 1 (by decide)⟩
  · exact ⟨rfl, m 2 (by decide)⟩
  · exact ⟨rfl, m 3 (by decide)⟩
  · exact ⟨rfl, m 4 (by decide)⟩
  · exact ⟨rfl, m 5 (by decide)⟩
  · exact ⟨rfl, m 6 (by decide)⟩
  · exact ⟨rfl, Nat.le_of_eq hz⟩
theorem sumTo_congr {l m : Str} {k : Nat} (h : ∀ j, j < k → ¬ (148 ≤ j ∧ j < 156) → l.getD j 0 = m.getD j 0) : sumTo l k = sumTo m k := by
  induction k with
  | zero => rfl
  | succ k ih =>
    rw [sumTo, sumTo, ih (fun j hj => h j (by omega))]
    unfold sumAt
    by_cases c : 148 ≤ k ∧ k < 156
    · rw [if_pos c, if_pos c]
    · rw [if_neg c, if_neg c, h k (by omega) c]
theorem sumOf_put {l t : Str} (hl : l.length = 512) (ht : t.length = 8) : sumOf (putAt l 148 t) = sumOf l := by
  have h1 : (putAt l 148 t).length = 512 := by rw [putAt_len (by omega), hl]
  unfold sumOf
  rw [if_pos h1, if_pos hl, sumTo_congr (m := l) (fun j _ hc => by rw [putAt_get (by omega), if_neg (by omega)])]
theorem numAll_iff (H : Hdr) : numAll H = true ↔ ∀ j, j < 7 → (putOct (numP H j) (lenP j)).2 = 0 := by
  unfold numAll
  rw [List.all_eq_true]
  exact ⟨fun h j hj => of_decide_eq_true (h j (List.mem_range.2 hj)), fun h j hj => decide_eq_true (h j (List.mem_range.1 hj))⟩
/-- What a header that may be put comes to. -/
structure BodyIs (H : Hdr) (b : Str) : Prop where
  len : b.length = 512
  placed : Placed (pieces H ((putOct (sumOf b) 7).1 ++ [32]))
  all : b = putAll (List.replicate 512 0) (pieces H ((putOct (sumOf b) 7).1 ++ [32]))
  sum : 0 ≤ sumOf b ∧ sumOf b ≤ 130560
theorem body_is {H : Hdr} (hf : fitAll H = true) (hn : numAll H = true) : BodyIs H (bodyP H) := by
  have h7 := (numAll_iff H).1 hn
  have l0 : (octTo H 7).length = 512 := by
    have l0 := txtTo_len hf 5 (by decide)
    have lm : magic.length = 8 := rfl
    have l1 : (putAt (txtTo H 5) 257 magic).length = 512 := by rw [putAt_len (by omega), l0]
    have l2 : (putAt (putAt (txtTo H 5) 257 magic) 156 [H.type]).length = 512 := by rw [putAt_len (by rw [l1]; simp), l1]
    rw [octTo_B, octB_len (by rw [body0_eq hf]; exact l2) h7 7 (by decide)]
  have hs := sumOf_in l0
  have hz : ((putOct (sumOf (octTo H 7)) 7).1 ++ [32]).length = 8 := by rw [List.length_append, putOct_sum hs.1 hs.2]; rfl
  have e : sumOf (bodyP H) = sumOf (octTo H 7) := sumOf_put l0 hz
  have hp := pieces_placed (z := (putOct (sumOf (octTo H 7)) 7).1 ++ [32]) hf h7 hz
  refine ⟨by unfold bodyP; rw [putAt_len (by omega), l0], by rw [e]; exact hp, ?_, by rw [e]; exact hs⟩
  rw [e]
  exact bodyP_pieces H
theorem body_field {H : Hdr} {b : Str} (h : BodyIs H b) (k : Nat) (hk : k < 15) : sub b (plc k).1 (plc k).2 = ((pieces H ((putOct (sumOf b) 7).1 ++ [32])).getD k (0, [])).2 ++ List.replicate ((plc k).2 - ((pieces H ((putOct (sumOf b) 7).1 ++ [32])).getD k (0, [])).2.length) 0 := by
  have := field_sub h.placed k hk
  rw [← h.all] at this
  exact this
theorem fit_noZ {l : Str} {n : Nat} (h : fitB l n = true) : noZ l = true := by
  unfold fitB at h
  rw [Bool.and_eq_true] at h
  exact h.2
theorem num_field {H : Hdr} {b : Str} (h : BodyIs H b) (hn : numAll H = true) (j k : Nat) (hj : j < 7) (hk : k < 15) (e1 : (plc k).1 = posP j) (e2 : (plc k).2 = lenP j) (e3 : ((pieces H ((putOct (sumOf b) 7).1 ++ [32])).getD k (0, [])).2 = (putOct (numP H j) (lenP j)).1) : octL (sub b (posP j) (lenP j)) = (numP H j, 0) := by
  have h0 := (numAll_iff H).1 hn j hj
  have := body_field h k hk
  rw [e1, e2, e3, pad_full (putOct_len (numP H j) (lenP j) h0)] at this
  rw [this, oct_put h0]
theorem sum_field {H : Hdr} {b : Str} (h : BodyIs H b) : octL (sub b 148 8) = (sumOf b, 0) := by
  have := body_field h 14 (by decide)
  rw [show sub b 148 8 = _ from this, pad_full (show ((putOct (sumOf b) 7).1 ++ [32]).length = 8 by rw [List.length_append, putOct_sum h.sum.1 h.sum.2]; rfl)]
  exact oct_sum h.sum.1 h.sum.2
theorem read_put {H : Hdr} (hf : fitAll H = true) (hn : numAll H = true) : readL (bodyP H) = (H, 0) := by
  have h := body_is hf hn
  obtain ⟨b, hb⟩ : ∃ b, bodyP H = b := ⟨_, rfl⟩
  rw [hb] at h ⊢
  clear hb
  have ft := (fitAll_iff H).1 hf
  have t0 : upTo0 (sub b 0 100) = H.name := by rw [show sub b 0 100 = _ from body_field h 0 (by decide)]; exact upTo0_pad _ (fit_noZ (ft 0 (by decide)))
  have t1 : upTo0 (sub b 345 155) = H.pre := by rw [show sub b 345 155 = _ from body_field h 5 (by decide)]; exact upTo0_pad _ (fit_noZ (ft 1 (by decide)))
  have t2 : upTo0 (sub b 157 100) = H.target := by rw [show sub b 157 100 = _ from body_field h 1 (by decide)]; exact upTo0_pad _ (fit_noZ (ft 2 (by decide)))
  have t3 : upTo0 (sub b 265 32) = H.user := by rw [show sub b 265 32 = _ from body_field h 3 (by decide)]; exact upTo0_pad _ (fit_noZ (ft 3 (by decide)))
  have t4 : upTo0 (sub b 297 32) = H.group := by rw [show sub b 297 32 = _ from body_field h 4 (by decide)]; exact upTo0_pad _ (fit_noZ (ft 4 (by decide)))
  have tm : sub b 257 8 = magic := by rw [show sub b 257 8 = _ from body_field h 2 (by decide)]; rfl
  have ty : b.getD 156 0 = H.type := by
    have := body_field h 6 (by decide)
    have e : (sub b 156 1).getD 0 0 = b.getD 156 0 := sub_get (by decide)
    rw [← e, show sub b 156 1 = _ from this]; rfl
  have n0 : octL (sub b 100 8) = (H.mode, 0) := num_field h hn 0 7 (by decide) (by decide) rfl rfl rfl
  have n1 : octL (sub b 108 8) = (H.uid, 0) := num_field h hn 1 8 (by decide) (by decide) rfl rfl rfl
  have n2 : octL (sub b 116 8) = (H.gid, 0) := num_field h hn 2 9 (by decide) (by decide) rfl rfl rfl
  have n3 : octL (sub b 124 12) = (H.size, 0) := num_field h hn 3 10 (by decide) (by decide) rfl rfl rfl
  have n4 : octL (sub b 136 12) = (H.time, 0) := num_field h hn 4 11 (by decide) (by decide) rfl rfl rfl
  have hs := sum_field h
  have e1 : b.take 512 = b := List.take_of_length_le (Nat.le_of_eq h.len)
  have hh : headOk b = true := by
    unfold headOk
    rw [tm, hs, decide_eq_true rfl, decide_eq_true rfl, decide_eq_true rfl]; rfl
  have hk : numsOk b = true := by
    unfold numsOk
    rw [n0, n1, n2, n3, n4]; rfl
  unfold readL
  rw [if_neg (by rw [h.len]; decide), e1, hh, hk]
  show (hdrOf b, (0 : Int)) = (H, 0)
  unfold hdrOf
  rw [t0, t1, t2, t3, t4, ty, n0, n1, n2, n3, n4]
theorem sumTo_set {l : Str} {i : Nat} {y : UInt8} (hi : i < l.length) (hn : ¬ (148 ≤ i ∧ i < 156)) : ∀ k, sumTo (l.set i y) k + (if i < k then (l.getD i 0).toNat else 0) = sumTo l k + (if i < k then y.toNat else 0)
  | 0 => rfl
  | k + 1 => by
    have ih := sumTo_set (y := y) hi hn k
    rw [sumTo, sumTo]
    have hg : ∀ j, (l.set i y).getD j 0 = if i = j then y else l.getD j 0 := fun j => by
      simp only [List.getD_eq_getElem?_getD]
      rw [List.getElem?_set]
      by_cases e : i = j
      · subst e; rw [if_pos rfl, if_pos rfl, if_pos hi]; rfl
      · rw [if_neg e, if_neg e]
    unfold sumAt
    rw [hg]
    by_cases e : i = k
    · subst e
      rw [if_neg hn, if_neg hn, if_pos rfl, if_pos (show i < i + 1 by omega), if_pos (show i < i + 1 by omega)]
      rw [if_neg (show ¬ i < i by omega), if_neg (show ¬ i < i by omega)] at ih
      omega
    · rw [if_neg e]
      by_cases c : i < k
      · rw [if_pos c, if_pos c] at ih
        rw [if_pos (show i < k + 1 by omega), if_pos (show i < k + 1 by omega)]
        omega
      · rw [if_neg c, if_neg c] at ih
        rw [if_neg (show ¬ i < k + 1 by omega), if_neg (show ¬ i < k + 1 by omega)]
        omega
theorem read_turned {H : Hdr} (hf : fitAll H = true) (hn : numAll H = true) {i : Nat} {y : UInt8} (hi : i < 512) (ho : ¬ (148 ≤ i ∧ i < 156)) (hy : y ≠ (bodyP H).getD i 0) : (readL ((bodyP H).set i y)).2 ≠ 0 := by
  have h := body_is hf hn
  obtain ⟨b, hb⟩ : ∃ b, bodyP H = b := ⟨_, rfl⟩
  rw [hb] at h hy ⊢
  clear hb
  have hs := sum_field h
  have hl : (b.set i y).length = 512 := by rw [List.length_set, h.len]
  have e1 : (b.set i y).take 512 = b.set i y := List.take_of_length_le (Nat.le_of_eq hl)
  have e2 : sub (b.set i y) 148 8 = sub b 148 8 := by
    refine ext_getD (by rw [sub_len (by omega), sub_len (by have := h.len; omega)]) (fun j hj => ?_)
    rw [sub_len (by omega)] at hj
    rw [sub_get hj, sub_get hj]
    simp only [List.getD_eq_getElem?_getD]
    rw [List.getElem?_set_ne (by omega)]
  have e3 : sumOf (b.set i y) ≠ sumOf b := by
    have h1 := sumTo_set (l := b) (y := y) (by rw [h.len]; exact hi) ho 512
    rw [if_pos hi, if_pos hi] at h1
    have h2 : y.toNat ≠ (b.getD i 0).toNat := fun e => hy (UInt8.toNat.inj e)
    unfold sumOf
    rw [if_pos hl, if_pos h.len]
    omega
  have hh : headOk (b.set i y) = false := by
    unfold headOk
    rw [e2, hs, decide_eq_false (show ¬ (sumOf b, (0 : Int)).1 = sumOf (b.set i y) from fun e => e3 e.symm), Bool.and_false]
  unfold readL
  rw [if_neg (by rw [hl]; decide), e1, hh, Bool.false_and, if_neg Bool.false_ne_true]
  decide
/-- Pieces that are the same, or both away from j. -/
def Near (j : Nat) : List (Nat × Str) → List (Nat × Str) → Prop
  | [], [] => True
  | p :: r, q :: t => (p = q ∨ ((j < p.1 ∨ p.1 + p.2.length ≤ j) ∧ (j < q.1 ∨ q.1 + q.2.length ≤ j))) ∧ Near j r t
  | _, _ => False
theorem putAll_congr {j m : Nat} : ∀ {ps qs : List (Nat × Str)} {l l' : Str}, l.length = m → l'.length = m → Fit m ps → Fit m qs → Near j ps qs → l.getD j 0 = l'.getD j 0 → (putAll l ps).getD j 0 = (putAll l' qs).getD j 0
  | [], [], _, _, _, _, _, _, _, he => he
  | [], _ :: _, _, _, _, _, _, _, h, _ => h.elim
  | _ :: _, [], _, _, _, _, _, _, h, _ => h.elim
  | p :: r, q :: t, l, l', hl, hl', hp, hq, ⟨h, hr⟩, he => by
    have h1 : p.1 + p.2.length ≤ l.length := by rw [hl]; exact hp p List.mem_cons_self
    have h2 : q.1 + q.2.length ≤ l'.length := by rw [hl']; exact hq q List.mem_cons_self
    rw [putAll, putAll]
    refine putAll_congr (m := m) (by rw [putAt_len h1, hl]) (by rw [putAt_len h2, hl']) hp.tail hq.tail hr ?_
    rw [putAt_get h1, putAt_get h2]
    rcases h with rfl | ⟨h3, h4⟩
    · by_cases c : p.1 ≤ j ∧ j < p.1 + p.2.length
      · rw [if_pos c, if_pos c]
      · rw [if_neg c, if_neg c, he]
    · rw [if_neg (by omega), if_neg (by omega), he]
end Go.Proofs.YtggjdfnkmhlliaaDoor.Walks
