/- What is projected, plain: paths, entries that may be, what can be held. -/
import Derived.Test.YtdkfemmjoabbcaaDoorPTw
namespace Go.Proofs.YtdkfemmjoabbcaaDoor.Walks
open Go Go.RowKit Go.Proofs.YtdkfemmjoabbcaaDoor.Aid Go.Proofs.YtdkfemmjoabbcaaDoor.Pth Go.Proofs.YtdkfemmjoabbcaaDoor.Own Go.Proofs.YtdkfemmjoabbcaaDoorW.PrintWords

theorem mem_total {q : Str} : ∀ {xs : List Str}, q ∈ xs → q.length + 1 ≤ total xs
  | [], h => by cases h
  | x :: xs, h => by
    rw [total_cons]
    rcases List.mem_cons.1 h with h | h
    · subst h; omega
    · have := mem_total h; omega
theorem getLastD_mem {α : Type} {xs : List α} {d : α} (h : xs ≠ []) : xs.getLastD d ∈ xs := by
  cases xs with
  | nil => exact absurd rfl h
  | cons x r =>
    rw [List.getLastD_cons, List.getLastD_eq_getLast?]
    cases hr : r.getLast? with
    | none => exact List.mem_cons_self
    | some y => exact List.mem_cons_of_mem _ (List.mem_of_getLast? hr)
theorem last_right {p : Str} (h : rightL p = true) : rightL (lastL p) = true ∧ lastL (lastL p) = lastL p := by
  have hc : cleanL p = some p := by unfold rightL at h; exact of_decide_eq_true h
  obtain ⟨hg, he, hl, _, _⟩ := clean_yes hc
  have hs : splitL p = keepL p := by unfold splitL; rw [h, if_pos rfl]; exact (clean_again hc).2
  obtain ⟨q, hq⟩ : ∃ q, lastL p = q := ⟨_, rfl⟩
  have hm : q ∈ keepL p := by
    rw [← hq]
    unfold lastL
    rw [hs]
    exact getLastD_mem hg.1
  rw [hq]
  have hgq : Pth.Good [q] := ⟨by simp, fun x hx => by rw [List.mem_singleton.1 hx]; exact hg.2 q hm⟩
  have hlen : q.length ≤ 4096 := by
    have h1 := mem_total hm
    cases hk : keepL p with
    | nil => rw [hk] at hm; cases hm
    | cons x xs =>
      have h2 := join_len x xs
      rw [hk] at h1 he
      rw [← he] at h2
      omega
  have hcq := good_clean hgq (by rw [join_one]; exact hlen)
  rw [join_one] at hcq
  have hr : rightL q = true := by unfold rightL; rw [hcq]; exact decide_eq_true rfl
  refine ⟨hr, ?_⟩
  unfold lastL splitL
  rw [hr, if_pos rfl, parts_plain (hg.2 q hm).1]
  rfl
theorem data_right : rightL [100, 97, 116, 97] = true := by
  have hg : Pth.Good [([100, 97, 116, 97] : Str)] := ⟨by simp, fun x hx => by rw [List.mem_singleton.1 hx]; decide⟩
  have := good_clean hg (by rw [join_one]; decide)
  rw [join_one] at this
  unfold rightL
  rw [this]
  exact decide_eq_true rfl
/-- The five formats. -/
def Fmt (f : Int) : Prop := f = 1 ∨ f = 2 ∨ f = 3 ∨ f = 4 ∨ f = 5
theorem oneT1 (E : Ent) : oneT E 1 = { E with time := zipF E.time, uid := 0, gid := 0 } := rfl
theorem oneT2 (E : Ent) : oneT E 2 = { E with time := fineF E.time } := rfl
theorem oneT3 (E : Ent) : oneT E 3 = { E with time := floatOfInt .f64 (unixF E.time) } := rfl
theorem oneT4 (E : Ent) : oneT E 4 = { E with path := if rightL E.path then lastL E.path else E.path, time := fromUnixF (unixF E.time), mode := 420, uid := 0, gid := 0 } := rfl
theorem oneT5 (E : Ent) : oneT E 5 = { E with path := [100, 97, 116, 97], time := nanW, mode := 420, uid := 0, gid := 0 } := rfl
theorem oneT_well (E : Ent) {f : Int} (hf : Fmt f) : WellT (oneT E f).time := by
  rcases hf with rfl | rfl | rfl | rfl | rfl
  · rw [oneT1]; exact well_zip _
  · rw [oneT2]; exact well_fine _
  · rw [oneT3]; exact well_unix _
  · rw [oneT4]; exact well_fromUnix _
  · rw [oneT5]; exact well_nan
theorem oneT_twice (E : Ent) {f : Int} (hf : Fmt f) : oneT (oneT E f) f = oneT E f := by
  rcases hf with rfl | rfl | rfl | rfl | rfl
  · rw [oneT1, oneT1]
    dsimp only
    rw [zip_twice]
  · rw [oneT2, oneT2]
    dsimp only
    rw [fine_twice]
  · rw [oneT3, oneT3]
    dsimp only
    rw [unix_twice]
  · rw [oneT4, oneT4]
    dsimp only
    rw [fromUnix_twice]
    congr 1
    cases hr : rightL E.path
    · rw [if_neg Bool.false_ne_true, hr, if_neg Bool.false_ne_true]
    · obtain ⟨h1, h2⟩ := last_right hr
      rw [if_pos rfl, h1, if_pos rfl, h2]
  · rw [oneT5, oneT5]
theorem may_of {F : Ent} (hr : rightL F.path = true) (m0 : decide (0 ≤ F.mode) = true) (m1 : decide (F.mode ≤ 4095) = true) (u : idB F.uid = true) (g : idB F.gid = true) (hb : bodyE F = true) : mayL F = true := by
  unfold mayL headE
  rw [hr, m0, m1, u, g, hb]; rfl
theorem oneT_may {E : Ent} {f : Int} (hf : Fmt f) (h : mayL E = true) : mayL (oneT E f) = true := by
  unfold mayL headE at h
  rw [Bool.and_eq_true, Bool.and_eq_true, Bool.and_eq_true, Bool.and_eq_true, Bool.and_eq_true] at h
  obtain ⟨⟨hr, m0, m1, u, g⟩, hb⟩ := h
  have hb' : ∀ F : Ent, F.kind = E.kind → F.target = E.target → F.data = E.data → bodyE F = true := fun F a b c => by unfold bodyE at hb ⊢; rw [a, b, c]; exact hb
  have hz : idB 0 = true := by decide
  rcases hf with rfl | rfl | rfl | rfl | rfl
  · exact may_of (F := oneT E 1) hr m0 m1 hz hz (hb' _ rfl rfl rfl)
  · exact may_of (F := oneT E 2) hr m0 m1 u g (hb' _ rfl rfl rfl)
  · exact may_of (F := oneT E 3) hr m0 m1 u g (hb' _ rfl rfl rfl)
  · refine may_of (F := oneT E 4) ?_ (show decide ((0 : Int) ≤ 420) = true by decide) (show decide ((420 : Int) ≤ 4095) = true by decide) hz hz (hb' _ rfl rfl rfl)
    rw [oneT4]
    dsimp only
    rw [hr, if_pos rfl]
    exact (last_right hr).1
  · exact may_of (F := oneT E 5) data_right (show decide ((0 : Int) ≤ 420) = true by decide) (show decide ((420 : Int) ≤ 4095) = true by decide) hz hz (hb' _ rfl rfl rfl)
theorem oneT_kind (E : Ent) (f : Int) : (oneT E f).kind = E.kind ∧ (oneT E f).target = E.target := by
  rw [oneT_def]
  by_cases h2 : f = 2
  · rw [if_pos h2]; exact ⟨rfl, rfl⟩
  · rw [if_neg h2]
    by_cases h3 : f = 3
    · rw [if_pos h3]; exact ⟨rfl, rfl⟩
    · rw [if_neg h3]
      by_cases h1 : f = 1
      · rw [if_pos h1]; exact ⟨rfl, rfl⟩
      · rw [if_neg h1]
        by_cases h4 : f = 4
        · rw [if_pos h4]; exact ⟨rfl, rfl⟩
        · rw [if_neg h4]
          by_cases h5 : f = 5
          · rw [if_pos h5]; exact ⟨rfl, rfl⟩
          · rw [if_neg h5]; exact ⟨rfl, rfl⟩
theorem oneT_path (E : Ent) {f : Int} (hf : f = 1 ∨ f = 2 ∨ f = 3) : (oneT E f).path = E.path := by
  rcases hf with rfl | rfl | rfl <;> rfl
theorem lastKind_map (l : List Ent) {f : Int} (hf : f = 1 ∨ f = 2 ∨ f = 3) (t : Str) : lastKind (l.map (oneT · f)) t = lastKind l t := by
  unfold lastKind
  rw [List.foldl_map]
  congr 1
  funext k e
  rw [oneT_path e hf, (oneT_kind e f).1]
theorem listL_ge (l : List Ent) : listL l = -1 ∨ (0 ≤ listL l ∧ ∃ i : Nat, i < l.length ∧ listL l = (i : Int)) := by
  unfold listL
  cases hc : (List.range l.length).find? (fun i => !(listAt (l.take i) (l.getD i e0))) with
  | none => exact Or.inl rfl
  | some i =>
    have := List.mem_range.1 (List.mem_of_find?_eq_some hc)
    exact Or.inr ⟨by show (0 : Int) ≤ (i : Int); omega, i, this, rfl⟩
theorem listL_yes {l : List Ent} (h : listL l = -1) : ∀ j, j < l.length → listAt (l.take j) (l.getD j e0) = true := by
  intro j hj
  unfold listL at h
  cases hc : (List.range l.length).find? (fun i => !(listAt (l.take i) (l.getD i e0))) with
  | none =>
    have := List.find?_eq_none.1 hc j (List.mem_range.2 hj)
    simpa using this
  | some i => rw [hc] at h; exfalso; have h' : (i : Int) = -1 := h; omega
theorem rep_yes {l : List Ent} {f : Int} (hf : Fmt f) (h : repL l f = -1) : listL l = -1 ∧ (∀ j, j < l.length → holdsL (l.getD j e0) (j : Int) f = true) ∧ ¬ (l.length = 0 ∧ (f = 4 ∨ f = 5)) := by
  have hb : ¬ (f < 1 ∨ f > 5) := by rcases hf with rfl | rfl | rfl | rfl | rfl <;> omega
  unfold repL at h
  rw [if_neg hb] at h
  have hl : listL l = -1 := by
    rcases listL_ge l with h1 | ⟨h1, _⟩
    · exact h1
    · rw [if_pos h1] at h; omega
  rw [hl, if_neg (by decide)] at h
  unfold repFrom at h
  cases hc : (List.range l.length).find? (fun i => !(holdsL (l.getD i e0) (i : Int) f)) with
  | none =>
    rw [hc] at h
    dsimp only at h
    refine ⟨hl, fun j hj => ?_, fun hz => by rw [if_pos hz] at h; omega⟩
    have := List.find?_eq_none.1 hc j (List.mem_range.2 hj)
    simpa using this
  | some i => rw [hc] at h; exfalso; have h' : (i : Int) = -1 := h; omega
theorem getD_oneT {l : List Ent} {f : Int} {j : Nat} (hj : j < l.length) : (l.map (oneT · f)).getD j e0 = oneT (l.getD j e0) f := by
  rw [List.getD_eq_getElem?_getD, List.getElem?_map, List.getElem?_eq_getElem hj, List.getD_eq_getElem?_getD, List.getElem?_eq_getElem hj]; rfl
theorem holds_map {E : Ent} {f p : Int} (hf : Fmt f) (h : holdsL E p f = true) : holdsL (oneT E f) p f = true := by
  unfold holdsL at h ⊢
  rw [(oneT_kind E f).1]
  rcases hf with rfl | rfl | rfl | rfl | rfl
  · rw [oneT_path E (Or.inl rfl)]; exact h
  · exact h
  · rw [oneT_path E (Or.inr (Or.inr rfl))]; exact h
  · exact h
  · exact h
/-- What can be held can be held projected. -/
theorem rep_map {l : List Ent} {f : Int} (hf : Fmt f) (h : repL l f = -1) : repL (l.map (oneT · f)) f = -1 := by
  obtain ⟨h1, h2, h3⟩ := rep_yes hf h
  have hb : ¬ (f < 1 ∨ f > 5) := by rcases hf with rfl | rfl | rfl | rfl | rfl <;> omega
  have hlen : (l.map (oneT · f)).length = l.length := List.length_map _
  have hL : listL (l.map (oneT · f)) = -1 := list_all (fun j hj => by
    rw [hlen] at hj
    have ha := listL_yes h1 j hj
    have hk := h2 j hj
    rw [getD_oneT hj]
    unfold listAt at ha ⊢
    rw [Bool.and_eq_true] at ha
    rw [oneT_may hf ha.1, (oneT_kind _ _).1, (oneT_kind _ _).2, Bool.true_and]
    by_cases h4 : (l.getD j e0).kind = 4
    · have hfm : f = 2 ∨ f = 3 := by
        unfold holdsL at hk
        rw [h4] at hk
        rcases hf with rfl | rfl | rfl | rfl | rfl
        · simp at hk
        · exact Or.inl rfl
        · exact Or.inr rfl
        · simp at hk
        · simp at hk
      rw [← List.map_take, lastKind_map _ (Or.inr hfm)]
      exact ha.2
    · rw [decide_eq_false h4]; rfl)
  unfold repL
  rw [if_neg hb, hL, if_neg (by decide), rep_all (fun j hj => by rw [hlen] at hj; rw [getD_oneT hj]; exact holds_map hf (h2 j hj)), hlen, if_neg h3]
end Go.Proofs.YtdkfemmjoabbcaaDoor.Walks
