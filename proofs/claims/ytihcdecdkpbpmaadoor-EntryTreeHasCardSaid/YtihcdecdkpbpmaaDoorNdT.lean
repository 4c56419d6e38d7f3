/- Parts of slices of nodes; slices of strings of the call's own that grow in regions that draw their order. -/
import Derived.Test.YtihcdecdkpbpmaaDoorNdS
import Derived.Test.YtihcdecdkpbpmaaDoorLst
import Derived.Test.YtihcdecdkpbpmaaDoorOwnS
namespace Go.Proofs.YtihcdecdkpbpmaaDoor.Walks
open Go Go.RowKit Go.Proofs.YtihcdecdkpbpmaaDoor.Aid Go.Proofs.YtihcdecdkpbpmaaDoor.Pth Go.Proofs.YtihcdecdkpbpmaaDoor.Own Go.Proofs.YtihcdecdkpbpmaaDoor.OwnS Go.Proofs.YtihcdecdkpbpmaaDoorW.PrintWords

theorem rdN_take {U : Nat → Prop} {w : World} {A : Option Addr} {n c : Nat} {ns : List Nd} (h : RdN U w (.slice A n c) ns) {k : Nat} (hk : k ≤ ns.length) (c' : Nat) : RdN U w (.slice A k c') (ns.take k) := by
  obtain ⟨A', c1, e, h⟩ := h
  injection e with e1 e2 e3
  refine ⟨A, c', by rw [List.length_take, Nat.min_eq_left hk], fun i N hi => ?_⟩
  rw [List.getElem?_take] at hi
  split at hi
  · rw [e1]; exact h i N hi
  · cases hi
theorem rdN_drop {U : Nat → Prop} {w : World} {ad : Addr} {n c : Nat} {ns : List Nd} (h : RdN U w (.slice (some ad) n c) ns) {k : Nat} (c' : Nat) : RdN U w (.slice (some (ad.add (k * 3))) (n - k) c') (ns.drop k) := by
  obtain ⟨A', c1, e, h⟩ := h
  injection e with e1 e2 e3
  refine ⟨some (ad.add (k * 3)), c', by rw [List.length_drop, e2], fun i N hi => ?_⟩
  rw [List.getElem?_drop] at hi
  obtain ⟨ad', e4, hu, hc⟩ := h (k + i) N hi
  rw [← e1] at e4
  injection e4 with e4
  subst e4
  refine ⟨_, rfl, by rw [add_block]; exact hu, fun j u hj => ?_⟩
  have := hc j u hj
  rw [show (k + i) * 3 + j = k * 3 + (i * 3 + j) by omega] at this
  rw [add_add]
  exact this
theorem rdN_dropIf {U : Nat → Prop} {w : World} {ad : Addr} {n c : Nat} {ns : List Nd} (h : RdN U w (.slice (some ad) n c) ns) (hc : n ≤ c) (k c' : Nat) : RdN U w (.slice (if c = k then some ad else some (ad.add (k * 3))) (n - k) c') (ns.drop k) := by
  split
  · rename_i e
    obtain ⟨A', c1, e1, _⟩ := h
    injection e1 with _ e2 _
    rw [List.drop_eq_nil_of_le (by omega), show n - k = 0 by omega]
    exact RdN.nil _ _ _ _
  · exact rdN_drop h c'
theorem rdN_dropL {U : Nat → Prop} {w : World} {g n c : Nat} {ns : List Nd} (h : RdN U w (.slice (some ⟨g, 0, none⟩) n c) ns) (hc : n ≤ c) (k c' : Nat) : RdN U w (.slice (if c = k then some ⟨g, 0, none⟩ else some ⟨g, k * 3, none⟩) (n - k) c') (ns.drop k) := by
  have := rdN_dropIf h hc k c'
  rwa [add_lit] at this
theorem rdN_drop0 {U : Nat → Prop} {w : World} {g n c : Nat} {ns : List Nd} (h : RdN U w (.slice (some ⟨g, 0, none⟩) n c) ns) {k : Nat} (c' : Nat) : RdN U w (.slice (some ⟨g, k * 3, none⟩) (n - k) c') (ns.drop k) := by
  have := rdN_drop (k := k) h c'
  rwa [add_lit] at this
theorem ownN_some {base : Nat} {w : World} {v : Value} {ns : List Nd} (h : OwnN base w v ns) (h0 : 0 < ns.length) : v ≠ .slice none 0 0 := fun e => by
  obtain ⟨A, c, e2, _⟩ := ownN_shape h
  rw [e2] at e
  injection e with _ e3 _
  omega
theorem rdN_none {U : Nat → Prop} {w : World} {v : Value} {ns : List Nd} (h : RdN U w v ns) (h0 : ns = []) : ∃ A c, v = .slice A 0 c := by
  obtain ⟨A, c, e, _⟩ := h
  exact ⟨A, c, by rw [e, h0]; rfl⟩
theorem ownN_none {b : Nat} {w : World} {n c : Nat} {ns : List Nd} (h : OwnN b w (.slice none n c) ns) : ns = [] ∧ n = 0 ∧ c = 0 := by
  rcases h.2 with ⟨e, h0⟩ | ⟨g, cap, cur, hv, _⟩
  · injection e with _ e2 e3
    exact ⟨List.eq_nil_of_length_eq_zero h0, e2, e3⟩
  · injection hv with e1
    cases e1
theorem ownN_base {b b' : Nat} {w : World} {v : Value} {ns : List Nd} (h : OwnN b w v ns) (hb : b' ≤ b) : OwnN b' w v ns := by
  obtain ⟨hl, h1⟩ := h
  refine ⟨hl, ?_⟩
  rcases h1 with h0 | ⟨g, cap, cur, hv, hg, h2⟩
  · exact Or.inl h0
  · exact Or.inr ⟨g, cap, cur, hv, Nat.le_trans hb hg, h2⟩
theorem ownN_at {base : Nat} {w : World} {A : Option Addr} {n c : Nat} {ns : List Nd} (h : OwnN base w (.slice A n c) ns) {k : Nat} {N : Nd} (hk : ns[k]? = some N) :
    ∃ g, A = some ⟨g, 0, none⟩ ∧ base ≤ g ∧ g < w.heap.size ∧ (∀ j u, (nrow N)[j]? = some u → w.cell? ⟨g, k * 3 + j, none⟩ = some u) ∧ ∀ j, w.frozen? ⟨g, j, none⟩ = false := by
  have hkl := (List.getElem?_eq_some_iff.1 hk).1
  rcases h.2 with ⟨_, h0⟩ | ⟨g, cap, cur, hv, hb, hg, _⟩
  · omega
  · injection hv with e1 e2 e3
    subst e1
    refine ⟨g, rfl, hb, Only.heap_lt hg, fun j u hj => ?_, fun j => by simp [World.frozen?, hg]⟩
    have := World.ownsRow.cells h (g := g) rfl (k * 3 + j) u (by rw [flatN_get ns k j N hk (nrow_lt hj)]; exact hj)
    rwa [add_lit] at this
theorem ownN_at0 {base g : Nat} {w : World} (hb : base ≤ g) (h : w.heap[g]? = some (.cells #[] 48 (0, 0))) : OwnN base w (.slice (some ⟨g, 0, none⟩) 0 0) [] :=
  ⟨rfl, Or.inr ⟨g, 0, #[], rfl, hb, h, Nat.le_refl _, by decide, rfl, rfl⟩⟩
theorem only_new {wr W w1 : World} {v : Value} {ms : List Nd} {base : Nat} (h : Only (fun _ => False) wr W) (hO : OwnN base W v ms) (hb : wr.heap.size ≤ base) (ho : Only (fun k => some k = v.ownBlock) W w1) : Only (fun _ => False) wr w1 :=
  h.trans ho (fun _ hk => Or.inr (Nat.le_trans hb (ownN_lt hO hk).1))
theorem only_newT_aux {base : Nat} {w : World} {v : Value} {xs : List Value} {n s : Nat} {t : TypeId} (h : w.ownsRow base t s v n xs) {b : Nat} (hb : some b = v.ownBlock) : base ≤ b := (World.ownsRow.lt h b hb.symm).1
def flatT (l : List Str) : List Value := l.map (fun s => .string (B s))
/-- A slice of strings that the call made. -/
def OwnT (base : Nat) (w : World) (v : Value) (l : List Str) : Prop := w.ownsRow base 9 1 v l.length (flatT l)
theorem ownT_new {base : Nat} {w : World} (hb : base ≤ w.heap.size) : OwnT base (w.alloc (.cells #[] 9)) (.slice (some ⟨w.heap.size, 0, none⟩) 0 0) [] :=
  ⟨rfl, Or.inr ⟨w.heap.size, 0, #[], rfl, hb, alloc_new w _, Nat.le_refl _, by decide, rfl, rfl⟩⟩
theorem ownT_only {S : Nat → Prop} {base : Nat} {w w' : World} {v : Value} {l : List Str} (h : OwnT base w v l) (ho : Only S w w') (hS : ∀ b, some b = v.ownBlock → ¬ S b) : OwnT base w' v l := by
  obtain ⟨hl, h1⟩ := h
  refine ⟨hl, ?_⟩
  rcases h1 with h0 | ⟨g, cap, cur, hv, hb, hg, hn⟩
  · exact Or.inl h0
  · exact Or.inr ⟨g, cap, cur, hv, hb, ho.keeps hg (hS g (by rw [hv]; rfl)), hn⟩
theorem ownT_lt {base : Nat} {w : World} {v : Value} {l : List Str} (h : OwnT base w v l) {b : Nat} (hb : some b = v.ownBlock) : base ≤ b ∧ b < w.heap.size := World.ownsRow.lt h b hb.symm
theorem flatT_get {l : List Str} {j : Nat} (h : j < l.length) : (flatT l)[j]? = some (.string (B (l.getD j []))) := by
  unfold flatT
  rw [List.getElem?_map, List.getElem?_eq_getElem h, List.getD_eq_getElem?_getD, List.getElem?_eq_getElem h]
  rfl
theorem getD_mapB {l : List Str} {j : Nat} (h : j < l.length) : (l.map B).getD j ⟨#[]⟩ = B (l.getD j []) := by
  rw [List.getD_eq_getElem?_getD, List.getElem?_map, List.getElem?_eq_getElem h, List.getD_eq_getElem?_getD, List.getElem?_eq_getElem h]
  rfl
theorem ownT_rd {base : Nat} {w : World} {v : Value} {l : List Str} (h : OwnT base w v l) : ∃ A c, v = .slice A l.length c ∧ l.length ≤ c ∧ RdS w A (l.map B) := by
  rcases h.2 with ⟨rfl, h0⟩ | ⟨g, cap, cur, rfl, hb, hg, hn, hc, hs, ht⟩
  · have : l = [] := List.eq_nil_of_length_eq_zero h0
    subst this
    exact ⟨none, 0, rfl, Nat.le_refl _, fun h => absurd h (Nat.lt_irrefl 0)⟩
  · refine ⟨some ⟨g, 0, none⟩, cap, rfl, hn, fun _ => ⟨_, rfl, fun j hj => ?_⟩⟩
    rw [List.length_map] at hj
    rw [getD_mapB hj]
    exact World.ownsRow.cells h (g := g) rfl j _ (flatT_get hj)
theorem ownT_at0 {base g : Nat} {w : World} (hb : base ≤ g) (h : w.heap[g]? = some (.cells #[] 9 (0, 0))) : OwnT base w (.slice (some ⟨g, 0, none⟩) 0 0) [] :=
  ⟨rfl, Or.inr ⟨g, 0, #[], rfl, hb, h, Nat.le_refl _, by decide, rfl, rfl⟩⟩
theorem only_newT {wr W w1 : World} {v : Value} {ms : List Str} {base : Nat} (h : Only (fun _ => False) wr W) (hO : OwnT base W v ms) (hb : wr.heap.size ≤ base) (ho : Only (fun k => some k = v.ownBlock) W w1) : Only (fun _ => False) wr w1 :=
  h.trans ho (fun _ hk => Or.inr (Nat.le_trans hb (ownT_lt hO hk).1))
theorem rdS_one {w : World} {g : Nat} {q : Str} (h : w.heap[g]? = some (.cells #[.string (B q)] 9 (0, 0))) : RdS w (some ⟨g, 0, none⟩) ([q].map B) := fun _ => ⟨_, rfl, fun j hj => by
  obtain rfl : j = 0 := by simpa using hj
  exact Joins.cell_of_block h 0⟩
theorem infoT_any : ∃ i : TypeInfo, Tryd.prog.info? 9 = some i ∧ i.zero.isSome = true ∧ i.size = 1 ∧ i.bytes = 16 ∧ (i.zero.getD undef).cells.size = 1 := by
  have h : (Tryd.prog.info? 9).map (fun i => (i.zero.isSome, i.size, i.bytes, (i.zero.getD undef).cells.size)) = some (true, 1, 16, 1) := by kernel_rfl
  cases hi : Tryd.prog.info? 9 with
  | none => rw [hi] at h; cases h
  | some i =>
    rw [hi] at h
    have h2 := Option.some.inj h
    simp only [Prod.mk.injEq] at h2
    exact ⟨i, rfl, h2.1, h2.2.1, h2.2.2.1, h2.2.2.2⟩
section
variable {ops : Array Oper} {rest : List Oper} {o : Oper} {a : Act} {Q : Exit → Act → World → Prop}
/-- Strings are appended onto a slice of the call's own. -/
theorem appT_wp {W : World} {base : Nat} {K : Act → World → Prop} (s x : Operand) (ho : o.op = .call { callee := .builtin .append, args := #[s, x], argTypes := #[27, 27] })
    (v : Value) (A : Option Addr) (n c : Nat) (l m : List Str) (hs : a.eval s = v) (hx : a.eval x = .slice A n c) (hm : m.length = n) (HO : OwnT base W v l) (HR : RdS W A (m.map B)) (hne : m = [] → v ≠ .slice none 0 0) (hbase : base ≤ W.heap.size) (hl : l.length + m.length ≤ 100000)
    (h : ∀ v1 w1, OwnT base w1 v1 (l ++ m) → Only (fun k => some k = v.ownBlock) W w1 → K (a.put o.dst v1) w1) : o.wp Tryd.prog a W K Q := by
  obtain ⟨i, hi, hz, hsz, hby, hzs⟩ := infoT_any
  obtain ⟨z, hz'⟩ := Option.isSome_iff_exists.1 hz
  rw [hz', Option.getD_some] at hzs
  subst hm
  by_cases h0 : m = []
  · subst h0
    rcases HO.2 with ⟨e, _⟩ | ⟨g, cap, cur, hv, hb, hg, hn, hcm, hcs, ht⟩
    · exact absurd e (hne rfl)
    · have hu := Tryd.underlying27
      have hs0 : Src Tryd.prog i.size 27 (.slice A 0 c) 0 [] W := by
        cases A with
        | none => exact Src.ofNil W hu c
        | some ad => exact Src.ofSlice W hu ad 0 c [] (by simp) (fun j u hj => by simp at hj) (fun u hu => by simp at hu)
      have hr := run_append_room_src W 27 27 o.type 9 i hu hi g 0 l.length cap (.slice A 0 c) 0 [] hs0 hn (fun j hj => by simp at hj) (fun j hj => by simp at hj)
      have h1 := h v W (by rw [List.append_nil]; exact HO) (Only.refl _ _)
      unfold Oper.wp execOp
      simp only [ho, resolve, invoke, builtin, Sem.run_bind, Sem.run_pure, Result.andThen_ok, List.map_toArray, List.map_cons, List.map_nil, hs, hx, hv, List.length_nil, hr]
      rw [hv] at h1
      exact h1
  · have hpos := List.length_pos_iff.mpr h0
    obtain ⟨ad, rfl, hcell⟩ := HR (by rw [List.length_map]; exact hpos)
    obtain ⟨v1, w1, hr, hown, hg, _, hat⟩ := run_append_own_at (P := Tryd.prog) W base 27 o.type 9 i z 1 16 Tryd.underlying27 hi hz' hsz hby hzs (by decide) v l.length (flatT l) HO ad m.length c (flatT m) (by simp [flatT]) (fun j u hu => by
      have hj : j < m.length := by have := (List.getElem?_eq_some_iff.1 hu).1; simpa [flatT] using this
      rw [flatT_get hj] at hu
      rw [hcell j (by rw [List.length_map]; exact hj), getD_mapB hj]
      exact hu) (fun u hu => by
        obtain ⟨s, _, rfl⟩ := List.mem_map.1 hu
        rfl) (by unfold maxLen; omega) (by omega) hbase
    unfold Oper.wp execOp
    simp only [ho, resolve, invoke, builtin, Sem.run_bind, Sem.run_pure, Result.andThen_ok, List.map_toArray, List.map_cons, List.map_nil, hs, hx, hr]
    refine h v1 w1 ?_ ⟨hg.os, hg.tape, hg.output, hg.size, fun k hk hn => hg.block k hk (fun e2 => hn e2)⟩
    unfold OwnT
    rw [List.length_append]
    unfold flatT
    rw [List.map_append]
    exact hown
end
end Go.Proofs.YtihcdecdkpbpmaaDoor.Walks
