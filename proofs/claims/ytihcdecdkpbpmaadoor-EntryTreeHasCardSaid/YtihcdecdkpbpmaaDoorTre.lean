/- Trees of paths' parts: what stands below a front of parts, and which entry is a front's last. Plain. -/
import Derived.Test.YtihcdecdkpbpmaaDoorParts
import Derived.Lib.Bytealg
namespace Go.Proofs.YtihcdecdkpbpmaaDoor.Pth
open Go

theorem bl_irrefl : ∀ l : Str, Op.bytesLess l l = false
  | [] => rfl
  | x :: r => by
    have h := bl_irrefl r
    have hx : ¬ x < x := UInt8.lt_irrefl x
    simp [Op.bytesLess, h, hx]
theorem bl_trans : ∀ {a b c : Str}, Op.bytesLess a b = true → Op.bytesLess b c = true → Op.bytesLess a c = true
  | _, [], _, h, _ => by simp [Op.bytesLess] at h
  | _, _ :: _, [], _, h => by simp [Op.bytesLess] at h
  | [], _ :: _, _ :: _, _, _ => rfl
  | x :: a, y :: b, z :: c, h1, h2 => by
    simp only [Op.bytesLess, Bool.or_eq_true, Bool.and_eq_true, decide_eq_true_iff, beq_iff_eq] at h1 h2 ⊢
    rcases h1 with h1 | ⟨rfl, h1⟩
    · rcases h2 with h2 | ⟨rfl, h2⟩
      · exact Or.inl (UInt8.lt_trans h1 h2)
      · exact Or.inl h1
    · rcases h2 with h2 | ⟨rfl, h2⟩
      · exact Or.inl h2
      · exact Or.inr ⟨rfl, bl_trans h1 h2⟩
theorem bl_tri : ∀ {a b : Str}, Op.bytesLess a b = false → Op.bytesLess b a = false → a = b
  | [], [], _, _ => rfl
  | [], _ :: _, h, _ => by simp [Op.bytesLess] at h
  | _ :: _, [], _, h => by simp [Op.bytesLess] at h
  | x :: a, y :: b, h1, h2 => by
    simp only [Op.bytesLess, Bool.or_eq_false_iff, Bool.and_eq_false_imp, decide_eq_false_iff_not, beq_iff_eq] at h1 h2
    have e : x = y := UInt8.le_antisymm (UInt8.not_lt.1 h2.1) (UInt8.not_lt.1 h1.1)
    subst e
    rw [bl_tri (h1.2 rfl) (h2.2 rfl)]
theorem bl_asymm {a b : Str} (h : Op.bytesLess a b = true) : Op.bytesLess b a = false := by
  cases e : Op.bytesLess b a with
  | false => rfl
  | true =>
    have := bl_trans h e
    rw [bl_irrefl] at this
    cases this
theorem bl_ne {a b : Str} (h : Op.bytesLess a b = true) : a ≠ b := by
  rintro rfl
  rw [bl_irrefl] at h
  cases h
theorem cmp_neg : ∀ {a b : Str}, Lib.compareBytes a b < 0 ↔ Op.bytesLess a b = true
  | [], [] => by simp [Lib.compareBytes, Op.bytesLess]
  | [], _ :: _ => by simp [Lib.compareBytes, Op.bytesLess]
  | _ :: _, [] => by simp [Lib.compareBytes, Op.bytesLess]
  | x :: a, y :: b => by
    have ih := cmp_neg (a := a) (b := b)
    unfold Lib.compareBytes Op.bytesLess
    by_cases h1 : x < y
    · simp [h1]
    · by_cases h2 : y < x
      · have : x ≠ y := fun e => by rw [e] at h2; exact UInt8.lt_irrefl _ h2
        simp [h1, h2, this]
      · have e : x = y := UInt8.le_antisymm (UInt8.not_lt.1 h2) (UInt8.not_lt.1 h1)
        subst e
        simp [h1, ih]
/-- Names that rise. -/
def Rising (l : List Str) : Prop := l.Pairwise (fun a b => Op.bytesLess a b = true)
theorem rising_nodup {l : List Str} (h : Rising l) : l.Nodup := h.imp (fun h e => bl_ne h e)
theorem rising_unique : ∀ {l m : List Str}, Rising l → Rising m → (∀ x, x ∈ l ↔ x ∈ m) → l = m
  | [], [], _, _, _ => rfl
  | [], y :: s, _, _, h => by have := (h y).2 List.mem_cons_self; cases this
  | x :: r, [], _, _, h => by have := (h x).1 List.mem_cons_self; cases this
  | x :: r, y :: s, hl, hm, h => by
    have hl' := List.pairwise_cons.1 hl
    have hm' := List.pairwise_cons.1 hm
    have e : x = y := by
      rcases List.mem_cons.1 ((h x).1 List.mem_cons_self) with e | hx
      · exact e
      · rcases List.mem_cons.1 ((h y).2 List.mem_cons_self) with e | hy
        · exact e.symm
        · have h1 := hm'.1 x hx
          have h2 := hl'.1 y hy
          rw [bl_asymm h1] at h2
          cases h2
    subst e
    refine congrArg (x :: ·) (rising_unique hl'.2 hm'.2 fun z => ?_)
    constructor
    · intro hz
      rcases List.mem_cons.1 ((h z).1 (List.mem_cons_of_mem _ hz)) with e | hz'
      · subst e
        have := hl'.1 z hz
        rw [bl_irrefl] at this; cases this
      · exact hz'
    · intro hz
      rcases List.mem_cons.1 ((h z).2 (List.mem_cons_of_mem _ hz)) with e | hz'
      · subst e
        have := hm'.1 z hz
        rw [bl_irrefl] at this; cases this
      · exact hz'
def insN (n : Str) : List Str → List Str
  | [] => [n]
  | m :: r => if Op.bytesLess m n then m :: insN n r else if m = n then m :: r else n :: m :: r
theorem mem_insN {n x : Str} : ∀ {l : List Str}, x ∈ insN n l ↔ x = n ∨ x ∈ l
  | [] => by simp [insN]
  | m :: r => by
    unfold insN
    split
    · rw [List.mem_cons, mem_insN (l := r), List.mem_cons]
      constructor
      · rintro (h | h | h)
        · exact Or.inr (Or.inl h)
        · exact Or.inl h
        · exact Or.inr (Or.inr h)
      · rintro (h | h | h)
        · exact Or.inr (Or.inl h)
        · exact Or.inl h
        · exact Or.inr (Or.inr h)
    · split
      · rename_i e
        rw [List.mem_cons, e]
        constructor
        · exact Or.inr
        · rintro (h | h)
          · exact Or.inl h
          · exact h
      · rw [List.mem_cons]
theorem rising_insN {n : Str} : ∀ {l : List Str}, Rising l → Rising (insN n l)
  | [], _ => by simp [insN, Rising]
  | m :: r, h => by
    have h' := List.pairwise_cons.1 h
    unfold insN
    split
    · rename_i hmn
      refine List.pairwise_cons.2 ⟨fun x hx => ?_, rising_insN h'.2⟩
      rcases mem_insN.1 hx with e | hx
      · rw [e]; exact hmn
      · exact h'.1 x hx
    · split
      · exact h
      · rename_i h1 h2
        have hnm : Op.bytesLess n m = true := by
          cases e : Op.bytesLess n m with
          | true => rfl
          | false => exact absurd (bl_tri (by simpa using h1) e) h2
        refine List.pairwise_cons.2 ⟨fun x hx => ?_, h⟩
        rcases List.mem_cons.1 hx with e | hx
        · rw [e]; exact hnm
        · exact bl_trans hnm (h'.1 x hx)
theorem insN_len {n : Str} : ∀ {l : List Str}, (insN n l).length ≤ l.length + 1
  | [] => by simp [insN]
  | m :: r => by
    have := insN_len (n := n) (l := r)
    unfold insN
    split
    · rw [List.length_cons, List.length_cons]; omega
    · split
      · exact Nat.le_succ _
      · rw [List.length_cons]; exact Nat.le_refl _
/-- Where a name is put among names that rise. -/
def spotN (n : Str) (l : List Str) : Nat := (l.takeWhile (fun m => Op.bytesLess m n)).length
theorem insN_spot {n : Str} : ∀ {l : List Str}, insN n l = if l[spotN n l]? = some n then l else l.take (spotN n l) ++ n :: l.drop (spotN n l)
  | [] => by simp [insN, spotN]
  | m :: r => by
    unfold insN
    cases h : Op.bytesLess m n with
    | true =>
      have e : spotN n (m :: r) = spotN n r + 1 := by unfold spotN; rw [List.takeWhile_cons, h]; rfl
      rw [if_pos rfl, e, insN_spot (l := r), List.getElem?_cons_succ, List.take_succ_cons, List.drop_succ_cons]
      split <;> rfl
    | false =>
      have e : spotN n (m :: r) = 0 := by unfold spotN; rw [List.takeWhile_cons, h]; rfl
      rw [if_neg (by decide), e, List.getElem?_cons_zero]
      by_cases h2 : m = n
      · rw [if_pos h2, if_pos (by rw [h2])]
      · rw [if_neg h2, if_neg (fun e => h2 (Option.some.inj e))]; rfl
theorem spot_le (n : Str) (l : List Str) : spotN n l ≤ l.length := by
  unfold spotN
  exact (List.takeWhile_sublist _).length_le
theorem spot_lt {n : Str} : ∀ {l : List Str} {k : Nat}, k < spotN n l → ∃ m, l[k]? = some m ∧ Op.bytesLess m n = true
  | [], k, h => by simp [spotN] at h
  | m :: r, k, h => by
    cases hm : Op.bytesLess m n with
    | true =>
      have e : spotN n (m :: r) = spotN n r + 1 := by unfold spotN; rw [List.takeWhile_cons, hm]; rfl
      cases k with
      | zero => exact ⟨m, rfl, hm⟩
      | succ k =>
        rw [e] at h
        exact spot_lt (l := r) (Nat.lt_of_succ_lt_succ h)
    | false =>
      have e : spotN n (m :: r) = 0 := by unfold spotN; rw [List.takeWhile_cons, hm]; rfl
      omega
theorem spot_at {n : Str} : ∀ {l : List Str} {m : Str}, l[spotN n l]? = some m → Op.bytesLess m n = false
  | [], m, h => by simp at h
  | x :: r, m, h => by
    cases hm : Op.bytesLess x n with
    | true =>
      have e : spotN n (x :: r) = spotN n r + 1 := by unfold spotN; rw [List.takeWhile_cons, hm]; rfl
      rw [e, List.getElem?_cons_succ] at h
      exact spot_at h
    | false =>
      have e : spotN n (x :: r) = 0 := by unfold spotN; rw [List.takeWhile_cons, hm]; rfl
      rw [e, List.getElem?_cons_zero] at h
      rw [← Option.some.inj h]; exact hm
theorem spot_uniq {n : Str} {l : List Str} {k : Nat} (h1 : ∀ j, j < k → ∃ m, l[j]? = some m ∧ Op.bytesLess m n = true) (h2 : ∀ m, l[k]? = some m → Op.bytesLess m n = false) : spotN n l = k := by
  rcases Nat.lt_trichotomy (spotN n l) k with h | h | h
  · obtain ⟨m, e, hm⟩ := h1 _ h
    rw [spot_at e] at hm; cases hm
  · exact h
  · obtain ⟨m, e, hm⟩ := spot_lt h
    rw [h2 m e] at hm; cases hm
/-- What stands next behind a front. -/
def under (f p : List Str) : Option Str := if p.take f.length = f then p[f.length]? else none
theorem under_some {f p : List Str} {n : Str} : under f p = some n ↔ f ++ [n] <+: p := by
  unfold under
  constructor
  · intro h
    split at h
    · rename_i e
      refine ⟨p.drop (f.length + 1), ?_⟩
      obtain ⟨hl, hv⟩ := List.getElem?_eq_some_iff.1 h
      have : p.drop f.length = n :: p.drop (f.length + 1) := by rw [List.drop_eq_getElem_cons hl, hv]
      rw [List.append_assoc, List.singleton_append, ← this]
      conv => lhs; lhs; rw [← e]
      exact List.take_append_drop _ _
    · cases h
  · rintro ⟨r, rfl⟩
    rw [List.append_assoc, List.take_left, if_pos rfl, List.getElem?_append_right (Nat.le_refl _), Nat.sub_self]
    rfl
/-- The names below a front. -/
def kidN (P : List (List Str)) (f : List Str) : List Str := (P.filterMap (under f)).foldl (fun o n => insN n o) []
theorem kidN_nil (f : List Str) : kidN [] f = [] := rfl
theorem kidN_snoc (P : List (List Str)) (p f : List Str) : kidN (P ++ [p]) f = match under f p with | none => kidN P f | some n => insN n (kidN P f) := by
  unfold kidN
  rw [List.filterMap_append, List.foldl_append]
  cases h : under f p with
  | none => rw [List.filterMap_cons_none h]; rfl
  | some n => rw [List.filterMap_cons_some h]; rfl
theorem snocInd {α : Type} {motive : List α → Prop} (h0 : motive []) (h1 : ∀ l x, motive l → motive (l ++ [x])) (l : List α) : motive l := by
  have : ∀ n (l : List α), l.length = n → motive l := by
    intro n
    induction n with
    | zero => intro l hl; rw [List.eq_nil_of_length_eq_zero hl]; exact h0
    | succ n ih =>
      intro l hl
      have hne : l ≠ [] := by intro e; rw [e] at hl; cases hl
      rw [← List.dropLast_concat_getLast hne]
      exact h1 _ _ (ih _ (by rw [List.length_dropLast, hl]; rfl))
  exact this _ l rfl
theorem mem_kidN {P : List (List Str)} {f : List Str} {n : Str} : n ∈ kidN P f ↔ ∃ p ∈ P, f ++ [n] <+: p := by
  refine snocInd (motive := fun P => n ∈ kidN P f ↔ ∃ p ∈ P, f ++ [n] <+: p) (by simp [kidN_nil]) (fun P p ih => ?_) P
  rw [kidN_snoc]
  cases h : under f p with
  | none =>
    show n ∈ kidN P f ↔ _
    rw [ih]
    constructor
    · rintro ⟨q, hq, h2⟩; exact ⟨q, List.mem_append_left _ hq, h2⟩
    · rintro ⟨q, hq, h2⟩
      rcases List.mem_append.1 hq with hq | hq
      · exact ⟨q, hq, h2⟩
      · rw [List.mem_singleton.1 hq] at h2
        rw [under_some.2 h2] at h; cases h
  | some m =>
    show n ∈ insN m (kidN P f) ↔ _
    rw [mem_insN, ih]
    constructor
    · rintro (e | ⟨q, hq, h2⟩)
      · rw [e]; exact ⟨p, List.mem_append_right _ (List.mem_singleton.2 rfl), under_some.1 h⟩
      · exact ⟨q, List.mem_append_left _ hq, h2⟩
    · rintro ⟨q, hq, h2⟩
      rcases List.mem_append.1 hq with hq | hq
      · exact Or.inr ⟨q, hq, h2⟩
      · rw [List.mem_singleton.1 hq] at h2
        rw [under_some.2 h2] at h
        exact Or.inl (Option.some.inj h)
theorem rising_kidN (P : List (List Str)) (f : List Str) : Rising (kidN P f) := by
  refine snocInd (motive := fun P => Rising (kidN P f)) List.Pairwise.nil (fun P p ih => ?_) P
  rw [kidN_snoc]
  cases h : under f p with
  | none => exact ih
  | some m => exact rising_insN ih
theorem kidN_len (P : List (List Str)) (f : List Str) : (kidN P f).length ≤ P.length := by
  refine snocInd (motive := fun P => (kidN P f).length ≤ P.length) (Nat.le_refl _) (fun P p ih => ?_) P
  rw [kidN_snoc, List.length_append]
  cases h : under f p with
  | none => show (kidN P f).length ≤ _; omega
  | some m =>
    have := insN_len (n := m) (l := kidN P f)
    show (insN m (kidN P f)).length ≤ P.length + 1
    omega
/-- The last place of a front among paths; -1: none. -/
def entF (f : List Str) (s : Nat × Int) (p : List Str) : Nat × Int := (s.1 + 1, if p = f then (s.1 : Int) else s.2)
def entN (P : List (List Str)) (f : List Str) : Int := (P.foldl (entF f) (0, -1)).2
theorem entF_fst (P : List (List Str)) (f : List Str) : (P.foldl (entF f) (0, -1)).1 = P.length := by
  refine snocInd (motive := fun P => (P.foldl (entF f) (0, -1)).1 = P.length) rfl (fun P p ih => ?_) P
  rw [List.foldl_append, List.length_append, List.foldl_cons, List.foldl_nil]
  show (P.foldl (entF f) (0, -1)).1 + 1 = _
  rw [ih]; rfl
theorem entN_snoc (P : List (List Str)) (p f : List Str) : entN (P ++ [p]) f = if p = f then (P.length : Int) else entN P f := by
  unfold entN
  rw [List.foldl_append, List.foldl_cons, List.foldl_nil]
  show (if p = f then ((P.foldl (entF f) (0, -1)).1 : Int) else _) = _
  rw [entF_fst]
theorem entN_nil (f : List Str) : entN [] f = -1 := rfl
theorem entN_bd (P : List (List Str)) (f : List Str) : -1 ≤ entN P f ∧ entN P f < P.length := by
  refine snocInd (motive := fun P => -1 ≤ entN P f ∧ entN P f < P.length) (by rw [entN_nil]; exact ⟨Int.le_refl _, by decide⟩) (fun P p ih => ?_) P
  rw [entN_snoc, List.length_append, List.length_singleton]
  split <;> omega
theorem entN_mem {P : List (List Str)} {f : List Str} : 0 ≤ entN P f ↔ f ∈ P := by
  refine snocInd (motive := fun P => 0 ≤ entN P f ↔ f ∈ P) (by rw [entN_nil]; simp) (fun P p ih => ?_) P
  rw [entN_snoc, List.mem_append, List.mem_singleton]
  split
  · rename_i e
    exact ⟨fun _ => Or.inr e.symm, fun _ => by omega⟩
  · rename_i e
    rw [ih]
    exact ⟨Or.inl, fun h => h.elim id (fun h => absurd h.symm e)⟩
theorem entN_last {P : List (List Str)} {f : List Str} {i : Nat} (hi : P[i]? = some f) (hl : ∀ k, i < k → P[k]? ≠ some f) : entN P f = i := by
  revert i
  refine snocInd (motive := fun P => ∀ {i : Nat}, P[i]? = some f → (∀ k, i < k → P[k]? ≠ some f) → entN P f = i) (by intro i h; simp at h) (fun P p ih => ?_) P
  intro i hi hl
  rw [entN_snoc]
  have hlt := (List.getElem?_eq_some_iff.1 hi).1
  rw [List.length_append, List.length_singleton] at hlt
  by_cases c : i < P.length
  · rw [List.getElem?_append_left c] at hi
    have hp : p ≠ f := by
      intro e
      have h2 := hl P.length c
      rw [List.getElem?_append_right (Nat.le_refl _), Nat.sub_self] at h2
      exact h2 (by rw [e]; rfl)
    rw [if_neg hp]
    refine ih hi fun k hk e => hl k hk ?_
    rw [List.getElem?_append_left (List.getElem?_eq_some_iff.1 e).1]; exact e
  · obtain rfl : i = P.length := by omega
    rw [List.getElem?_append_right (Nat.le_refl _), Nat.sub_self] at hi
    rw [if_pos (by simpa using hi)]
end Go.Proofs.YtihcdecdkpbpmaaDoor.Pth
