/- The program's tree that is made: nodes in the heap, each with a map of its kids. -/
import Derived.Test.YtihcdecdkpbpmaaDoorNdS
import Derived.Maps.RangeWalk
namespace Go.Proofs.YtihcdecdkpbpmaaDoor.Walks
open Go Go.RowKit Go.Maps Go.WideMaps Go.Proofs.YtihcdecdkpbpmaaDoor.Aid Go.Proofs.YtihcdecdkpbpmaaDoor.Pth Go.Proofs.YtihcdecdkpbpmaaDoor.Own Go.Proofs.YtihcdecdkpbpmaaDoorW.PrintWords

/-- How a pointer to a node reads: by its block. -/
def nodeElem (v : Value) : Option (DataW Unit × List MemPlace) :=
  match v with
  | .pointer none => some (.lit (.int .i64 (-1)), [])
  | .pointer (some ⟨g, 0, none⟩) => some (.lit (.int .i64 (g : Int)), [])
  | _ => none
theorem nodeElem_inv {v : Value} {y : DataW Unit × List MemPlace} (h : nodeElem v = some y) : ∃ p : Option Addr, v = .pointer p := by
  unfold nodeElem at h
  split at h
  · exact ⟨_, rfl⟩
  · exact ⟨_, rfl⟩
  · cases h
theorem nodeElem_at {p : Option Addr} {g : Nat} {ps : List MemPlace} (h : nodeElem (.pointer p) = some (.lit (.int .i64 (g : Int)), ps)) : p = some ⟨g, 0, none⟩ := by
  unfold nodeElem at h
  split at h
  · injection h with h; injection h with h _; injection h with h; injection h with _ h; omega
  · rename_i g' e
    injection e with e
    injection h with h; injection h with h _; injection h with h; injection h with _ h
    rw [e]
    have : g' = g := by omega
    rw [this]
  · cases h
theorem nodeElem_none {p : Option Addr} {ps : List MemPlace} (h : nodeElem (.pointer p) = some (.lit (.int .i64 (-1)), ps)) : p = none := by
  unfold nodeElem at h
  split at h
  · rename_i e
    injection e
  · rename_i g' e
    injection h with h; injection h with h _; injection h with h; injection h with _ h; omega
  · cases h
theorem keyS {n : Str} (h : n.length ≤ 500000) : keyOf Tryd.prog 9 (.string (B n)) = some (.string n) := by
  have := keyOf_string_mk (s := B n) Tryd.underlying9 (by rw [B_size]; unfold maxLen; omega)
  rwa [B_data] at this
theorem keyedS : Keyed Tryd.prog 9 := string_keyed Tryd.underlying9
theorem zeroN (w : World) : (zeroValue 49).run Tryd.prog w = .ok (.pointer none) w := by kernel_rfl
/-- What a node's map of kids reads as. -/
def kmapN (nd : List Str → Nat) (f : List Str) (ns : List Str) : DataW Unit := ns.foldl (fun m n => m.put (.string n) (.lit (.int .i64 (nd (f ++ [n]) : Int)))) (.map [])
theorem kmapN_snoc (nd : List Str → Nat) (f ns : List Str) (n : Str) : kmapN nd f (ns ++ [n]) = (kmapN nd f ns).put (.string n) (.lit (.int .i64 (nd (f ++ [n]) : Int))) := by
  unfold kmapN; rw [List.foldl_append]; rfl
theorem kmapN_map (nd : List Str → Nat) (f ns : List Str) : Maps.IsMap (kmapN nd f ns) := by
  refine snocInd (motive := fun ns => Maps.IsMap (kmapN nd f ns)) Maps.isMap_empty (fun ns n ih => ?_) ns
  rw [kmapN_snoc]; exact ih.put _ _
theorem kmapN_at (nd : List Str → Nat) (f ns : List Str) (n : Str) (z : DataW Unit) : (kmapN nd f ns).atKey (.string n) z = if n ∈ ns then .lit (.int .i64 (nd (f ++ [n]) : Int)) else z := by
  refine snocInd (motive := fun ns => (kmapN nd f ns).atKey (.string n) z = if n ∈ ns then .lit (.int .i64 (nd (f ++ [n]) : Int)) else z) (by rw [if_neg (by simp)]; rfl) (fun ns m ih => ?_) ns
  rw [kmapN_snoc]
  by_cases h : m = n
  · rw [h, Maps.atKey_put_same (k := .string n) (kmapN_map nd f ns) trivial, if_pos (by simp)]
  · rw [Maps.atKey_put_other (k := .string m) (k' := .string n) (fun h2 => h ((Lit.string.inj h2).symm)), ih]
    have : n ∈ ns ++ [m] ↔ n ∈ ns := by
      rw [List.mem_append, List.mem_singleton]
      exact ⟨fun h3 => h3.elim id (fun e => absurd e.symm h), Or.inl⟩
    simp only [this]
theorem kmapN_has (nd : List Str → Nat) (f ns : List Str) (kl : Lit) : Maps.has (kmapN nd f ns) kl = true ↔ ∃ n ∈ ns, kl = .string n := by
  refine snocInd (motive := fun ns => Maps.has (kmapN nd f ns) kl = true ↔ ∃ n ∈ ns, kl = .string n) ⟨fun h => (Bool.false_ne_true h).elim, fun ⟨n, h, _⟩ => by cases h⟩ (fun ns m ih => ?_) ns
  rw [kmapN_snoc]
  by_cases h : kl = .string m
  · rw [h, Maps.has_put_same (k := .string m) (kmapN_map nd f ns) trivial]
    exact ⟨fun _ => ⟨m, by simp, rfl⟩, fun _ => rfl⟩
  · rw [Maps.has_put_other (k := .string m) (k' := kl) h, ih]
    constructor
    · rintro ⟨n, hn, e⟩; exact ⟨n, List.mem_append_left _ hn, e⟩
    · rintro ⟨n, hn, e⟩
      rcases List.mem_append.1 hn with hn | hn
      · exact ⟨n, hn, e⟩
      · rw [List.mem_singleton.1 hn] at e; exact absurd e h
theorem kmapN_congr {nd nd' : List Str → Nat} {f : List Str} : ∀ {ns : List Str}, (∀ n ∈ ns, nd (f ++ [n]) = nd' (f ++ [n])) → kmapN nd f ns = kmapN nd' f ns := by
  intro ns
  refine snocInd (motive := fun ns => (∀ n ∈ ns, nd (f ++ [n]) = nd' (f ++ [n])) → kmapN nd f ns = kmapN nd' f ns) (fun _ => rfl) (fun ns n ih h => ?_) ns
  rw [kmapN_snoc, kmapN_snoc, ih (fun m hm => h m (List.mem_append_left _ hm)), h n (by simp)]
/-- The nodes: where each front's node and its map lie (nd), which fronts have one (X), each one's entry (en). -/
structure Forest (w : World) (nd : List Str → Nat × Nat) (X : List Str → Prop) (en : List Str → Int) (N : Nat) : Prop where
  root : X []
  pre : ∀ f n, X (f ++ [n]) → X f
  node : ∀ f, X f → w.heap[(nd f).1]? = some (.cells #[.int .i64 (en f), .map (some (nd f).2)] 52 (0, 0))
  kids : ∀ f, X f → ∃ ns : List Str, ns.Nodup ∧ (∀ n, n ∈ ns ↔ X (f ++ [n])) ∧ w.ownsMap Tryd.prog 9 nodeElem (nd f).2 N (kmapN (fun g => (nd g).1) f ns)
  inj : ∀ f g, X f → X g → (nd f).1 = (nd g).1 ∨ (nd f).2 = (nd g).2 → f = g
theorem mapN_only {w u : World} {S : Nat → Prop} {b n : Nat} {D : DataW Unit} (h : w.ownsMap Tryd.prog 9 nodeElem b n D) (ho : Only S w u) (hb : ¬ S b) : u.ownsMap Tryd.prog 9 nodeElem b n D := by
  obtain ⟨es, clock, h1, h2⟩ := h
  exact ⟨es, clock, ho.keeps h1 hb, h2⟩
section
variable {w u : World} {nd : List Str → Nat × Nat} {X : List Str → Prop} {en : List Str → Int} {N : Nat}
theorem Forest.only {S : Nat → Prop} (h : Forest w nd X en N) (ho : Only S w u) (hS : ∀ b, b < w.heap.size → ¬ S b) : Forest u nd X en N :=
  ⟨h.root, h.pre, fun f hf => ho.keeps (h.node f hf) (hS _ (Only.heap_lt (h.node f hf))), fun f hf => by
    obtain ⟨ns, h1, h2, h3⟩ := h.kids f hf
    exact ⟨ns, h1, h2, mapN_only h3 ho (hS _ h3.lt)⟩, h.inj⟩
theorem Forest.lt1 (h : Forest w nd X en N) {f : List Str} (hf : X f) : (nd f).1 < w.heap.size := Only.heap_lt (h.node f hf)
theorem Forest.lt2 (h : Forest w nd X en N) {f : List Str} (hf : X f) : (nd f).2 < w.heap.size := by
  obtain ⟨ns, _, _, h3⟩ := h.kids f hf
  exact h3.lt
theorem Forest.ne12 (h : Forest w nd X en N) {f g : List Str} (hf : X f) (hg : X g) : (nd f).1 ≠ (nd g).2 := fun e => by
  obtain ⟨ns, _, _, es, clock, h3, _⟩ := h.kids g hg
  have h1 := h.node f hf
  rw [e, h3] at h1
  cases h1
theorem Forest.congr {X' : List Str → Prop} {en' : List Str → Int} (h : Forest w nd X en N) (hX : ∀ f, X f ↔ X' f) (hen : ∀ f, X f → en f = en' f) : Forest w nd X' en' N :=
  ⟨(hX _).1 h.root, fun f n hf => (hX _).1 (h.pre f n ((hX _).2 hf)), fun f hf => by rw [← hen f ((hX f).2 hf)]; exact h.node f ((hX f).2 hf), fun f hf => by
    obtain ⟨ns, h1, h2, h3⟩ := h.kids f ((hX f).2 hf)
    exact ⟨ns, h1, fun n => (h2 n).trans (hX _), h3⟩, fun f g hf hg => h.inj f g ((hX f).2 hf) ((hX g).2 hg)⟩
/-- The root alone. -/
theorem forest_root (w : World) : Forest ((w.alloc (.map #[] 0)).alloc (.cells #[.int .i64 0, .map (some w.heap.size)] 52)) (fun _ => (w.heap.size + 1, w.heap.size)) (fun f => f = []) (fun _ => 0) 0 :=
  ⟨rfl, fun f n h => by simp at h, fun f _ => by
    have := alloc_new (w.alloc (.map #[] 0)) (.cells #[.int .i64 0, .map (some w.heap.size)] 52)
    rwa [alloc_size] at this, fun f _ => ⟨[], List.Pairwise.nil, fun n => by simp, (World.ownsMap_made w Tryd.prog 9 nodeElem).alloc _⟩, fun f g hf hg _ => hf.trans hg.symm⟩
/-- A node more. -/
def updF {α : Type} (h : List Str → α) (f : List Str) (v : α) : List Str → α := fun g => if g = f then v else h g
theorem updF_same {α : Type} (h : List Str → α) (f : List Str) (v : α) : updF h f v f = v := if_pos rfl
theorem updF_other {α : Type} (h : List Str → α) {f g : List Str} (v : α) (hn : g ≠ f) : updF h f v g = h g := if_neg hn
theorem snoc_inj {f g : List Str} {m n : Str} (h : f ++ [m] = g ++ [n]) : f = g ∧ m = n := by
  have := List.append_inj' h rfl
  exact ⟨this.1, by simpa using this.2⟩
theorem forest_new (h : Forest w nd X en N) {f : List Str} (hf : X f) {n : Str} (hn : ¬ X (f ++ [n])) {ns : List Str} (hd : ns.Nodup) (hns : ∀ m, m ∈ ns ↔ X (f ++ [m]))
    {w3 : World} (h3 : w3.ownsMap Tryd.prog 9 nodeElem (nd f).2 (N + 1) ((kmapN (fun g => (nd g).1) f ns).put (.string n) (.lit (.int .i64 ((w.heap.size + 1 : Nat) : Int)))))
    (hg : ((w.alloc (.map #[] 0)).alloc (.cells #[.int .i64 (-1), .map (some w.heap.size)] 52)).grownBy w3 (some (nd f).2)) :
    Forest w3 (updF nd (f ++ [n]) (w.heap.size + 1, w.heap.size)) (fun g => X g ∨ g = f ++ [n]) (updF en (f ++ [n]) (-1)) (N + 1) := by
  have hsz1 := alloc_size w (.map #[] 0)
  have hsz2 := alloc_size (w.alloc (.map #[] 0)) (.cells #[.int .i64 (-1), .map (some w.heap.size)] 52)
  have hne : ∀ g, X g → g ≠ f ++ [n] := fun g hg e => hn (by rw [← e]; exact hg)
  have ho : Only (fun k => k = (nd f).2) w w3 := (((Only.refl (fun k => k = (nd f).2) w).alloc _).alloc _).trans (S' := fun k => k = (nd f).2) (w2 := w3) ⟨hg.os, hg.tape, hg.output, hg.size, fun k hk hn => hg.block k hk (fun e => hn (Option.some.inj e))⟩ (fun k hk => Or.inl hk)
  have hf1 := h.lt1 hf
  have hf2 := h.lt2 hf
  have hb1 : w3.heap[w.heap.size + 1]? = some (.cells #[.int .i64 (-1), .map (some w.heap.size)] 52 (0, 0)) := by
    have h0 := alloc_new (w.alloc (.map #[] 0)) (.cells #[.int .i64 (-1), .map (some w.heap.size)] 52)
    rw [hsz1] at h0
    rw [hg.block (w.heap.size + 1) (by rw [hsz2, hsz1]; omega) (fun e => by have := Option.some.inj e; omega)]
    exact h0
  have hb2 : w3.ownsMap Tryd.prog 9 nodeElem w.heap.size 0 (.map []) := ((World.ownsMap_made w Tryd.prog 9 nodeElem).alloc _).kept hg (fun e => by have := Option.some.inj e; omega)
  refine ⟨Or.inl h.root, ?_, ?_, ?_, ?_⟩
  · rintro g m (hX | hX)
    · exact Or.inl (h.pre g m hX)
    · rw [(snoc_inj hX).1]; exact Or.inl hf
  · rintro g (hX | rfl)
    · rw [updF_other _ _ (hne g hX), updF_other _ _ (hne g hX)]
      exact ho.keeps (h.node g hX) (h.ne12 hX hf)
    · rw [updF_same, updF_same]; exact hb1
  · rintro g (hX | rfl)
    · rw [updF_other _ _ (hne g hX)]
      by_cases hgf : g = f
      · subst hgf
        refine ⟨ns ++ [n], ?_, fun m => ?_, ?_⟩
        · rw [List.nodup_append]
          refine ⟨hd, by simp, fun a ha b hb e => ?_⟩
          rw [List.mem_singleton.1 hb] at e
          rw [e] at ha
          exact hn ((hns n).1 ha)
        · rw [List.mem_append, List.mem_singleton, hns]
          constructor
          · rintro (h4 | rfl)
            · exact Or.inl h4
            · exact Or.inr rfl
          · rintro (h4 | h4)
            · exact Or.inl h4
            · exact Or.inr (snoc_inj h4).2
        · rw [kmapN_snoc, updF_same]
          rw [kmapN_congr (nd' := fun g => (nd g).1) (fun m hm => by rw [updF_other _ _ (hne _ ((hns m).1 hm))])]
          exact h3
      · obtain ⟨ns', hd', hns', hmp⟩ := h.kids g hX
        refine ⟨ns', hd', fun m => (hns' m).trans ⟨Or.inl, fun h4 => h4.elim id fun e => absurd (snoc_inj e).1 hgf⟩, ?_⟩
        rw [kmapN_congr (nd' := fun g => (nd g).1) (fun m hm => by rw [updF_other _ _ (hne _ ((hns' m).1 hm))])]
        exact (mapN_only hmp ho (fun e => hgf (h.inj g f hX hf (Or.inr e)))).mono (Nat.le_succ _)
    · rw [updF_same]
      refine ⟨[], List.Pairwise.nil, fun m => ⟨fun h4 => (by cases h4), ?_⟩, hb2.mono (Nat.zero_le _)⟩
      rintro (h4 | h4)
      · exact absurd (h.pre _ _ h4) hn
      · exact absurd h4 (by intro e; have := congrArg List.length e; simp at this)
  · rintro g k (hX | rfl) (hY | rfl) he
    · rw [updF_other _ _ (hne g hX), updF_other _ _ (hne k hY)] at he
      exact h.inj g k hX hY he
    · rw [updF_other _ _ (hne g hX), updF_same] at he
      have := h.lt1 hX
      have := h.lt2 hX
      rcases he with he | he <;> (dsimp only at he; omega)
    · rw [updF_other _ _ (hne k hY), updF_same] at he
      have := h.lt1 hY
      have := h.lt2 hY
      rcases he with he | he <;> (dsimp only at he; omega)
    · rfl
/-- A node's entry is written. -/
theorem forest_set (h : Forest w nd X en N) {f : List Str} (hf : X f) (i : Int) : Forest (w.setCell ⟨(nd f).1, 0, none⟩ (.int .i64 i)) nd X (updF en f i) N := by
  have ho : Only (fun k => k = (nd f).1) w (w.setCell ⟨(nd f).1, 0, none⟩ (.int .i64 i)) := (Only.refl (fun k => k = (nd f).1) w).setCell (p := ⟨(nd f).1, 0, none⟩) (Or.inl rfl) _
  refine ⟨h.root, h.pre, fun g hg => ?_, fun g hg => ?_, h.inj⟩
  · by_cases e : g = f
    · subst e
      rw [updF_same]
      exact Joins.block_setCell (h.node g hg) _
    · rw [updF_other _ _ e]
      exact ho.keeps (h.node g hg) (fun e2 => e (h.inj g f hg hf (Or.inl e2)))
  · obtain ⟨ns, h1, h2, h3⟩ := h.kids g hg
    exact ⟨ns, h1, h2, mapN_only h3 ho (fun e => h.ne12 hf hg e.symm)⟩
variable {ops : Array Oper} {rest : List Oper} {o : Oper} {a : Act} {Q : Exit → Act → World → Prop}
/-- A kid is looked up. -/
theorem lookupN (h : Forest w nd X en N) {f : List Str} (hf : X f) {n : Str} (hn : n.length ≤ 500000) (hg : o.guard = none) (m x : Operand) (hop : o.op = Op.lookup 50 m x false) {b : Nat} (hb : (nd f).2 = b) (hm : a.eval m = .map (some b)) (hx : a.eval x = .string (B n))
    (p : Option Addr) (hp1 : X (f ++ [n]) → p = some ⟨(nd (f ++ [n])).1, 0, none⟩) (hp2 : ¬ X (f ++ [n]) → p = none)
    (hK : wpList Tryd.prog ops Q rest (a.put o.dst (.pointer p)) w) : wpList Tryd.prog ops Q (o :: rest) a w := by
  obtain ⟨ns, h1, h2, h3⟩ := h.kids f hf
  subst hb
  obtain ⟨v, ps, hrun, hv⟩ := h3.lookup keyedS Tryd.underlying50 (zeroN w) (zd := .lit (.int .i64 (-1))) (zp := []) rfl (keyS hn)
  rw [kmapN_at] at hv
  obtain ⟨q, rfl⟩ := nodeElem_inv hv
  have hq : q = p := by
    by_cases c : X (f ++ [n])
    · rw [if_pos ((h2 n).2 c)] at hv
      rw [hp1 c]; exact nodeElem_at hv
    · rw [if_neg (fun h4 => c ((h2 n).1 h4))] at hv
      rw [hp2 c]; exact nodeElem_none hv
  subst hq
  refine wpList_plain hg fun K' hK' => ?_
  unfold Oper.wp
  simp [execOp, hop, hm, hx, hrun, Result.andThen]
  exact hK' _ _ hK
/-- A new node is put into a map. -/
theorem updateN (h : Forest w nd X en N) (hN : N ≤ 100000) {f : List Str} (hf : X f) {n : Str} (hn : n.length ≤ 500000) (hX : ¬ X (f ++ [n])) (hg : o.guard = none) (m x v : Operand) (hop : o.op = Op.mapUpdate 50 m x v)
    (hm : a.eval m = .map (some (nd f).2)) (hx : a.eval x = .string (B n)) (hv : a.eval v = .pointer (some ⟨w.heap.size + 1, 0, none⟩))
    (hK : ∀ w3, Forest w3 (updF nd (f ++ [n]) (w.heap.size + 1, w.heap.size)) (fun g => X g ∨ g = f ++ [n]) (updF en (f ++ [n]) (-1)) (N + 1) → Only (fun k => k = (nd f).2) w w3 → wpList Tryd.prog ops Q rest (a.put o.dst undef) w3) :
    wpList Tryd.prog ops Q (o :: rest) a ((w.alloc (.map #[] 0)).alloc (.cells #[.int .i64 (-1), .map (some w.heap.size)] 52)) := by
  obtain ⟨ns, h1, h2, h3⟩ := h.kids f hf
  refine wpList_mapUpdate_own _ hg m x v 50 hop 9 49 keyedS Tryd.underlying50 nodeElem (nd f).2 N _ hm ((h3.alloc _).alloc _) (by unfold maxLen; omega) _ _ (.string n) hx hv (keyS hn) (.lit (.int .i64 ((w.heap.size + 1 : Nat) : Int))) [] rfl ?_
  intro w3 hown hgr
  exact hK w3 (forest_new h hf hX h1 h2 hown hgr) ((((Only.refl (fun k => k = (nd f).2) w).alloc _).alloc _).trans (S' := fun k => k = (nd f).2) (w2 := w3) ⟨hgr.os, hgr.tape, hgr.output, hgr.size, fun k hk hn => hgr.block k hk (fun e => hn (Option.some.inj e))⟩ (fun k hk => Or.inl hk))
end
end Go.Proofs.YtihcdecdkpbpmaaDoor.Walks
