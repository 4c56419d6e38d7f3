/- How many paths stand below a front, counted once each; how many entries are the last of their path. Plain. -/
import Derived.Test.YtihcdecdkpbpmaaDoorTld
import Derived.Test.YtihcdecdkpbpmaaDoorTree
namespace Go.Proofs.YtihcdecdkpbpmaaDoor.Walks
open Go Go.Proofs.YtihcdecdkpbpmaaDoor.Aid Go.Proofs.YtihcdecdkpbpmaaDoor.Pth

def lastsL : List (List Str) → List (List Str)
  | [] => []
  | p :: P => if p ∈ P then lastsL P else p :: lastsL P
theorem lasts_cons (p : List Str) (P : List (List Str)) : lastsL (p :: P) = if p ∈ P then lastsL P else p :: lastsL P := rfl
theorem mem_lasts {x : List Str} : ∀ {P : List (List Str)}, x ∈ lastsL P ↔ x ∈ P
  | [] => Iff.rfl
  | p :: P => by
    unfold lastsL
    split
    · rename_i h
      rw [mem_lasts (P := P), List.mem_cons]
      exact ⟨Or.inr, fun e => e.elim (fun e => by rw [e]; exact h) id⟩
    · rw [List.mem_cons, mem_lasts (P := P), List.mem_cons]
theorem nodup_lasts : ∀ P : List (List Str), (lastsL P).Nodup
  | [] => List.Pairwise.nil
  | p :: P => by
    unfold lastsL
    split
    · exact nodup_lasts P
    · rename_i h
      exact List.nodup_cons.2 ⟨fun e => h (mem_lasts.1 e), nodup_lasts P⟩
theorem lasts_len : ∀ P : List (List Str), (lastsL P).length ≤ P.length
  | [] => Nat.le_refl _
  | p :: P => by
    have := lasts_len P
    unfold lastsL
    split
    · rw [List.length_cons]; omega
    · rw [List.length_cons, List.length_cons]; omega
def belowB (f p : List Str) : Bool := (under f p).isSome
def cntF (P : List (List Str)) (f : List Str) : Nat := (lastsL P).countP (belowB f)
theorem cntF_le (P : List (List Str)) (f : List Str) : cntF P f ≤ P.length := Nat.le_trans List.countP_le_length (lasts_len P)
def termN (P : List (List Str)) (f : List Str) (q : Str) : Nat := (if f ++ [q] ∈ P then 1 else 0) + cntF P (f ++ [q])
theorem sum_add {α : Type} (L : List α) (a b : α → Nat) : (L.map (fun q => a q + b q)).sum = (L.map a).sum + (L.map b).sum := by
  induction L with
  | nil => rfl
  | cons x r ih => rw [List.map_cons, List.map_cons, List.map_cons, List.sum_cons, List.sum_cons, List.sum_cons, ih]; omega
theorem sum_zero {α : Type} {L : List α} {a : α → Nat} (h : ∀ x ∈ L, a x = 0) : (L.map a).sum = 0 := by
  induction L with
  | nil => rfl
  | cons x r ih => rw [List.map_cons, List.sum_cons, h x List.mem_cons_self, ih (fun y hy => h y (List.mem_cons_of_mem _ hy))]
theorem sum_one {L : List Str} (hL : L.Nodup) {x : Str} (hx : x ∈ L) : (L.map (fun q => if x = q then 1 else 0)).sum = 1 := by
  induction L with
  | nil => cases hx
  | cons y r ih =>
    obtain ⟨h1, h2⟩ := List.nodup_cons.1 hL
    rw [List.map_cons, List.sum_cons]
    rcases List.mem_cons.1 hx with e | e
    · subst e
      rw [if_pos rfl, sum_zero (fun z hz => if_neg (fun e => h1 (by rw [e]; exact hz)))]
    · rw [if_neg (fun e2 => h1 (by rw [← e2]; exact e)), ih h2 e]
theorem count_parts {α : Type} (g : α → Option Str) {L : List Str} (hL : L.Nodup) : ∀ (Q : List α), (∀ p ∈ Q, ∀ q, g p = some q → q ∈ L) → Q.countP (fun p => (g p).isSome) = (L.map (fun q => Q.countP (fun p => decide (g p = some q)))).sum
  | [], _ => (sum_zero (fun _ _ => rfl)).symm
  | p :: Q, h => by
    rw [List.countP_cons, count_parts g hL Q (fun p' hp => h p' (List.mem_cons_of_mem _ hp))]
    have e : (fun q => (p :: Q).countP (fun p => decide (g p = some q))) = (fun q => Q.countP (fun p => decide (g p = some q)) + (if g p = some q then 1 else 0)) := by
      funext q
      rw [List.countP_cons]
      by_cases c : g p = some q <;> simp [c]
    rw [e, sum_add]
    congr 1
    cases hg : g p with
    | none =>
      rw [sum_zero (fun q _ => if_neg (fun e => by cases e))]
      rfl
    | some q0 =>
      have h1 := sum_one hL (h p List.mem_cons_self q0 hg)
      have e2 : (fun q => if some q0 = some q then 1 else 0) = (fun q : Str => if q0 = q then 1 else 0) := by
        funext q
        by_cases c : q0 = q <;> simp [c]
      rw [e2, h1]
      rfl
theorem under_self (f : List Str) : under f f = none := by
  unfold under
  rw [List.take_length, if_pos rfl]
  exact List.getElem?_eq_none (Nat.le_refl _)
theorem under_deep {f p : List Str} {q : Str} : under f p = some q ↔ p = f ++ [q] ∨ (under (f ++ [q]) p).isSome = true := by
  rw [under_some]
  constructor
  · rintro ⟨r, e⟩
    cases r with
    | nil => exact Or.inl (by rw [← e, List.append_nil])
    | cons x r =>
      refine Or.inr ?_
      have : under (f ++ [q]) p = some x := under_some.2 ⟨r, by rw [← e]; simp⟩
      rw [this]; rfl
  · rintro (e | e)
    · rw [e]; exact List.prefix_refl _
    · obtain ⟨x, hx⟩ := Option.isSome_iff_exists.1 e
      exact List.IsPrefix.trans (List.prefix_append _ _) (under_some.1 hx)
theorem count_deep (f : List Str) (q : Str) : ∀ {Q : List (List Str)}, Q.Nodup → Q.countP (fun p => decide (under f p = some q)) = (if f ++ [q] ∈ Q then 1 else 0) + Q.countP (belowB (f ++ [q]))
  | [], _ => rfl
  | p :: Q, h => by
    obtain ⟨h1, h2⟩ := List.nodup_cons.1 h
    rw [List.countP_cons, List.countP_cons, count_deep f q h2]
    by_cases c : p = f ++ [q]
    · have e1 : under f p = some q := under_deep.2 (Or.inl c)
      have e2 : belowB (f ++ [q]) p = false := by unfold belowB; rw [c, under_self]; rfl
      have q1 : ¬ f ++ [q] ∈ Q := by rw [← c]; exact h1
      have q2 : f ++ [q] ∈ p :: Q := by rw [c]; exact List.mem_cons_self
      rw [e2, e1]
      simp only [q1, q2, decide_true, if_true, Bool.false_eq_true, if_false]
      omega
    · have e1 : (f ++ [q] ∈ p :: Q) ↔ (f ++ [q] ∈ Q) := by
        rw [List.mem_cons]
        exact ⟨fun e => e.elim (fun e => absurd e.symm c) id, Or.inr⟩
      have e2 : decide (under f p = some q) = belowB (f ++ [q]) p := by
        unfold belowB
        cases hb : (under (f ++ [q]) p).isSome with
        | true => exact decide_eq_true (under_deep.2 (Or.inr hb))
        | false => exact decide_eq_false (fun e => by rcases under_deep.1 e with e | e; exact c e; rw [hb] at e; cases e)
      rw [e2]
      simp only [e1]
      omega
theorem cnt_sum (P : List (List Str)) (f : List Str) : cntF P f = ((kidN P f).map (termN P f)).sum := by
  have h1 := count_parts (under f) (rising_nodup (rising_kidN P f)) (lastsL P) (fun p hp q hq => mem_kidN.2 ⟨p, mem_lasts.1 hp, under_some.1 hq⟩)
  have e : (fun q => (lastsL P).countP (fun p => decide (under f p = some q))) = termN P f := by
    funext q
    rw [count_deep f q (nodup_lasts P)]
    unfold termN cntF
    simp only [mem_lasts]
  rw [e] at h1
  exact h1
theorem sum_take_le (L : List Nat) (i : Nat) : (L.take i).sum ≤ L.sum := by
  have h := congrArg List.sum (List.take_append_drop i L)
  rw [List.sum_append] at h
  omega
/-- Entries that are the last of their path. -/
def wantL : List Ent → Nat
  | [] => 0
  | E :: r => (if splitL E.path ≠ [] ∧ E.path ∉ r.map (·.path) then 1 else 0) + wantL r
theorem partsL_inj : ∀ {a b : Str}, partsL a = partsL b → a = b
  | [], [], _ => rfl
  | [], c :: r, h => by
    by_cases e : c = 47
    · rw [e, partsL_slash] at h
      injection h with _ h
      exact absurd h.symm (partsL_ne r)
    · obtain ⟨p, ps, _, h2⟩ := partsL_cons (r := r) e
      rw [h2] at h
      cases h
  | c :: r, [], h => by
    by_cases e : c = 47
    · rw [e, partsL_slash] at h
      injection h with _ h
      exact absurd h (partsL_ne r)
    · obtain ⟨p, ps, _, h2⟩ := partsL_cons (r := r) e
      rw [h2] at h
      cases h
  | c :: r, c' :: r', h => by
    by_cases e : c = 47
    · by_cases e' : c' = 47
      · rw [e, e', partsL_slash, partsL_slash] at h
        injection h with _ h
        rw [e, e', partsL_inj h]
      · obtain ⟨p, ps, _, h2⟩ := partsL_cons (r := r') e'
        rw [e, partsL_slash, h2] at h
        cases h
    · obtain ⟨p, ps, h1, h2⟩ := partsL_cons (r := r) e
      by_cases e' : c' = 47
      · rw [e', partsL_slash, h2] at h
        cases h
      · obtain ⟨p', ps', h1', h2'⟩ := partsL_cons (r := r') e'
        rw [h2, h2'] at h
        injection h with h3 h4
        injection h3 with h5 h6
        rw [h5, partsL_inj (a := r) (b := r') (by rw [h1, h1', h6, h4])]
theorem splitL_inj {a b : Str} (h : splitL a = splitL b) (h0 : splitL a ≠ []) : a = b := by
  have h1 := h0
  rw [h] at h1
  unfold splitL at h h0 h1
  split at h
  · split at h
    · exact partsL_inj h
    · rename_i e
      rw [if_neg e] at h1
      exact absurd rfl h1
  · rename_i e
    rw [if_neg e] at h0
    exact absurd rfl h0
theorem below_nil (p : List Str) : belowB [] p = decide (p ≠ []) := by
  cases p with
  | nil => rfl
  | cons x r => rfl
theorem want_cnt : ∀ l : List Ent, wantL l = cntF (pathsL l) []
  | [] => rfl
  | E :: r => by
    have ih := want_cnt r
    have e0 : pathsL (E :: r) = splitL E.path :: pathsL r := rfl
    unfold cntF at ih ⊢
    unfold wantL
    rw [ih, e0, lasts_cons]
    by_cases c : splitL E.path = []
    · rw [if_neg (fun h => h.1 c)]
      split
      · omega
      · rw [List.countP_cons, below_nil, c]
        simp
    · have hm : splitL E.path ∈ pathsL r ↔ E.path ∈ r.map (·.path) := by
        unfold pathsL
        rw [List.mem_map, List.mem_map]
        constructor
        · rintro ⟨F, hF, h⟩; exact ⟨F, hF, (splitL_inj h.symm c).symm⟩
        · rintro ⟨F, hF, h⟩; exact ⟨F, hF, congrArg splitL h⟩
      by_cases c2 : E.path ∈ r.map (·.path)
      · rw [if_neg (fun h => h.2 c2), if_pos (hm.2 c2)]
        omega
      · rw [if_pos ⟨c, c2⟩, if_neg (fun h => c2 (hm.1 h)), List.countP_cons, below_nil]
        simp only [c, ne_eq, not_false_eq_true, decide_true, if_true]
        omega
end Go.Proofs.YtihcdecdkpbpmaaDoor.Walks
