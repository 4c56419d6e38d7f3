/- Plain: parts of what is put together; what is cleaned is clean; the order. -/
import Derived.Test.YtdkfemmjoabbcaaDoorClean
import Derived.Tactics
namespace Go.Proofs.YtdkfemmjoabbcaaDoor.Pth
open Go

theorem parts_cat (a b : Str) : partsL (a ++ 47 :: b) = partsL a ++ partsL b := by
  induction a with
  | nil => rw [List.nil_append, partsL_slash]; rfl
  | cons c r ih =>
    by_cases h : c = 47
    · subst h; rw [List.cons_append, partsL_slash, partsL_slash, ih]; rfl
    · obtain ⟨p, ps, e1, e2⟩ := partsL_cons (r := r) h
      obtain ⟨p', ps', e3, e4⟩ := partsL_cons (r := r ++ 47 :: b) h
      rw [List.cons_append, e4, e2]
      rw [ih, e1, List.cons_append] at e3
      have := List.cons.inj e3
      rw [← this.1, ← this.2]; rfl
theorem parts_plain {p : Str} (h : (47 : UInt8) ∉ p) : partsL p = [p] := by
  induction p with
  | nil => rfl
  | cons c r ih =>
    have hc : c ≠ 47 := fun e => h (by rw [e]; exact List.mem_cons_self)
    obtain ⟨q, qs, e1, e2⟩ := partsL_cons (r := r) hc
    rw [ih (fun h2 => h (List.mem_cons_of_mem _ h2))] at e1
    have := List.cons.inj e1
    rw [e2, ← this.1, ← this.2]
theorem join_two (x y : Str) (r : List Str) : joinL (x :: y :: r) = x ++ 47 :: joinL (y :: r) := by
  unfold joinL
  rw [Lib.join_cons, Lib.join_cons]
  simp [Lib.joinTail]
theorem join_one (x : Str) : joinL [x] = x := Lib.join_one x _
theorem parts_join : ∀ {xs : List Str}, xs ≠ [] → (∀ p ∈ xs, (47 : UInt8) ∉ p) → partsL (joinL xs) = xs
  | [], h, _ => absurd rfl h
  | [x], _, h => by rw [join_one]; exact parts_plain (h x List.mem_cons_self)
  | x :: y :: r, _, h => by
    rw [join_two, parts_cat, parts_plain (h x List.mem_cons_self), parts_join (by simp) (fun p hp => h p (List.mem_cons_of_mem _ hp))]
    rfl
theorem parts_in : ∀ (l : Str) (p : Str), p ∈ partsL l → (47 : UInt8) ∉ p ∧ ∀ x ∈ p, x ∈ l
  | [], p, h => by
    have : p = [] := by simpa [partsL] using h
    subst this; exact ⟨by simp, by simp⟩
  | c :: r, p, h => by
    by_cases hc : c = 47
    · subst hc
      rw [partsL_slash] at h
      rcases List.mem_cons.1 h with rfl | h
      · exact ⟨by simp, by simp⟩
      · have := parts_in r p h
        exact ⟨this.1, fun x hx => List.mem_cons_of_mem _ (this.2 x hx)⟩
    · obtain ⟨q, qs, e1, e2⟩ := partsL_cons (r := r) hc
      rw [e2] at h
      rcases List.mem_cons.1 h with rfl | h
      · have := parts_in r q (by rw [e1]; exact List.mem_cons_self)
        refine ⟨fun h2 => (List.mem_cons.1 h2).elim (fun e => hc e.symm) this.1, fun x hx => ?_⟩
        rcases List.mem_cons.1 hx with rfl | hx
        · exact List.mem_cons_self
        · exact List.mem_cons_of_mem _ (this.2 x hx)
      · have := parts_in r p (by rw [e1]; exact List.mem_cons_of_mem _ h)
        exact ⟨this.1, fun x hx => List.mem_cons_of_mem _ (this.2 x hx)⟩
theorem join_bytes : ∀ {xs : List Str} {x : UInt8}, x ∈ joinL xs → x = 47 ∨ ∃ p ∈ xs, x ∈ p
  | [], x, h => by cases h
  | [p], x, h => by rw [join_one] at h; exact Or.inr ⟨p, List.mem_cons_self, h⟩
  | p :: q :: r, x, h => by
    rw [join_two] at h
    rcases List.mem_append.1 h with h | h
    · exact Or.inr ⟨p, List.mem_cons_self, h⟩
    · rcases List.mem_cons.1 h with h | h
      · exact Or.inl h
      · rcases join_bytes h with h | ⟨s, hs, h⟩
        · exact Or.inl h
        · exact Or.inr ⟨s, List.mem_cons_of_mem _ hs, h⟩
/-- A list of parts that may be: no '/', no byte 0, none of them empty, '.', '..'. -/
def Good (xs : List Str) : Prop := xs ≠ [] ∧ ∀ p ∈ xs, (47 : UInt8) ∉ p ∧ (0 : UInt8) ∉ p ∧ p ≠ [] ∧ p ≠ [46] ∧ p ≠ [46, 46]
theorem good_keep {xs : List Str} (h : Good xs) : xs.filter Keep = xs := List.filter_eq_self.2 fun p hp => decide_eq_true ⟨(h.2 p hp).2.2.1, (h.2 p hp).2.2.2.1⟩
theorem good_parts {xs : List Str} (h : Good xs) : partsL (joinL xs) = xs := parts_join h.1 (fun p hp => (h.2 p hp).1)
theorem good_ne {xs : List Str} (h : Good xs) : joinL xs ≠ [] := by
  obtain ⟨hn, h⟩ := h
  cases xs with
  | nil => exact absurd rfl hn
  | cons x r =>
    intro e
    unfold joinL at e
    rw [Lib.join_cons] at e
    exact (h x List.mem_cons_self).2.2.1 (List.append_eq_nil_iff.1 e).1
theorem good_bad {xs : List Str} (h : Good xs) : Bad (joinL xs) = false := by
  refine decide_eq_false ?_
  rintro (e | e | e)
  · exact good_ne h e
  · obtain ⟨hn, h⟩ := h
    cases xs with
    | nil => exact hn rfl
    | cons x r =>
      unfold joinL at e
      rw [Lib.join_cons] at e
      have hx := h x List.mem_cons_self
      cases x with
      | nil => exact hx.2.2.1 rfl
      | cons c t =>
        have : c = 47 := by simpa using e
        exact hx.1 (by rw [this]; exact List.mem_cons_self)
  · rcases join_bytes e with e | ⟨p, hp, e⟩
    · exact absurd e (by decide)
    · exact (h.2 p hp).2.1 e
theorem good_clean {xs : List Str} (h : Good xs) (hl : (joinL xs).length ≤ 4096) : cleanL (joinL xs) = some (joinL xs) := by
  unfold cleanL keepL
  rw [good_bad h, good_parts h, good_keep h, if_neg (by decide), if_neg (fun e => (h.2 _ e).2.2.2.2 rfl), if_neg]
  rintro (e | e)
  · exact good_ne h e
  · omega
/-- What Clean says yes to. -/
theorem clean_yes {l c : Str} (h : cleanL l = some c) : Good (keepL l) ∧ c = joinL (keepL l) ∧ c.length ≤ 4096 ∧ Bad l = false ∧ ([46, 46] : Str) ∉ partsL l := by
  unfold cleanL at h
  split at h
  · cases h
  · rename_i hb
    split at h
    · cases h
    · rename_i hd
      split at h
      · cases h
      · rename_i hj
        have hc := (Option.some.inj h).symm
        refine ⟨⟨fun e => hj (Or.inl (by rw [e]; rfl)), fun p hp => ?_⟩, hc, by rw [hc]; omega, Bool.eq_false_iff.mpr hb, hd⟩
        have h1 := List.mem_filter.1 hp
        have h2 := parts_in l p h1.1
        have h3 := of_decide_eq_true (show decide (p ≠ [] ∧ p ≠ [46]) = true from h1.2)
        refine ⟨h2.1, fun h0 => ?_, h3.1, h3.2, fun e => hd (by rw [← e]; exact h1.1)⟩
        exact hb (decide_eq_true (Or.inr (Or.inr (h2.2 0 h0))))
theorem clean_again {l c : Str} (h : cleanL l = some c) : cleanL c = some c ∧ partsL c = keepL l := by
  obtain ⟨hg, rfl, hl, _⟩ := clean_yes h
  exact ⟨good_clean hg hl, good_parts hg⟩
end Go.Proofs.YtdkfemmjoabbcaaDoor.Pth
