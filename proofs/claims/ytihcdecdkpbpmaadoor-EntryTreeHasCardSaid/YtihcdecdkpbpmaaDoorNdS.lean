/- Slices of nodes: by value, of the call's own; trees of nodes in memory. -/
import Derived.Test.YtihcdecdkpbpmaaDoorEntS
import Derived.Test.YtihcdecdkpbpmaaDoorTre
import Derived.Maps.AppendAt
import Derived.Deep.AppendSrc
namespace Go.Proofs.YtihcdecdkpbpmaaDoor.Walks
open Go Go.RowKit Go.Proofs.YtihcdecdkpbpmaaDoor.Aid Go.Proofs.YtihcdecdkpbpmaaDoor.Pth Go.Proofs.YtihcdecdkpbpmaaDoor.Own Go.Proofs.YtihcdecdkpbpmaaDoorW.PrintWords

/-- A node by value: its kids are a slice. -/
structure Nd where
  name : Str
  ent : Int
  A : Option Addr
  n : Nat
  c : Nat
def Nd.kids (N : Nd) : Value := .slice N.A N.n N.c
def nrow (N : Nd) : Array Value := #[.string (B N.name), .int .i64 N.ent, .slice N.A N.n N.c]
def nval (N : Nd) : Value := .agg (nrow N)
def flatN (ns : List Nd) : List Value := ns.flatMap (fun N => (nrow N).toList)
theorem flatN_get : ∀ (ns : List Nd) (i j : Nat) (N : Nd), ns[i]? = some N → j < 3 → (flatN ns)[i * 3 + j]? = (nrow N)[j]?
  | [], i, j, e, h, _ => by simp at h
  | x :: r, 0, j, e, h, hj => by
    have hx : x = e := by simpa using h
    subst hx
    have : flatN (x :: r) = (nrow x).toList ++ flatN r := rfl
    rw [this, List.getElem?_append_left (by show 0 * 3 + j < 3; omega), Nat.zero_mul, Nat.zero_add, Array.getElem?_toList]
  | x :: r, i + 1, j, e, h, hj => by
    have h' : r[i]? = some e := by simpa using h
    have : flatN (x :: r) = (nrow x).toList ++ flatN r := rfl
    rw [this, List.getElem?_append_right (by show 3 ≤ (i + 1) * 3 + j; omega), show (i + 1) * 3 + j - (nrow x).toList.length = i * 3 + j from by show (i + 1) * 3 + j - 3 = _; omega]
    exact flatN_get r i j e h' hj
theorem flatN_len (ns : List Nd) : (flatN ns).length = ns.length * 3 := by
  induction ns with
  | nil => rfl
  | cons e r ih =>
    have : flatN (e :: r) = (nrow e).toList ++ flatN r := rfl
    rw [this, List.length_append, ih, List.length_cons, Nat.add_mul, Nat.one_mul, Nat.add_comm]
    rfl
theorem flatN_append (es fs : List Nd) : flatN (es ++ fs) = flatN es ++ flatN fs := by unfold flatN; rw [List.flatMap_append]
theorem nrow_one (N : Nd) : ∀ u ∈ (nrow N).toList, u.oneCell' = true := fun u hu => by
  simp [nrow] at hu
  rcases hu with rfl | rfl | rfl <;> rfl
theorem flatN_one (ns : List Nd) : ∀ u ∈ flatN ns, u.oneCell' = true := fun u hu => by
  obtain ⟨N, _, hu⟩ := List.mem_flatMap.1 hu
  exact nrow_one N u hu
theorem nrow_lt {N : Nd} {j : Nat} {u : Value} (h : (nrow N)[j]? = some u) : j < 3 := by
  have := (Array.getElem?_eq_some_iff.1 h).1
  exact this
theorem add_lit (g k : Nat) : (⟨g, 0, none⟩ : Addr).add k = ⟨g, k, none⟩ := by unfold Addr.add; split <;> simp_all
theorem add_block (ad : Addr) (k : Nat) : (ad.add k).block = ad.block := by unfold Addr.add; split <;> rfl
/-- A slice reads as nodes; it lies in a block of U. -/
def RdN (U : Nat → Prop) (w : World) (v : Value) (ns : List Nd) : Prop :=
  ∃ A c, v = .slice A ns.length c ∧ ∀ i N, ns[i]? = some N → ∃ ad, A = some ad ∧ U ad.block ∧ ∀ j u, (nrow N)[j]? = some u → w.cell? (ad.add (i * 3 + j)) = some u
theorem RdN.only {U S : Nat → Prop} {w w' : World} {v : Value} {ns : List Nd} (h : RdN U w v ns) (ho : Only S w w') (hS : ∀ b, U b → b < w.heap.size → ¬ S b) : RdN U w' v ns := by
  obtain ⟨A, c, e, h⟩ := h
  refine ⟨A, c, e, fun i N hi => ?_⟩
  obtain ⟨ad, e2, hu, hc⟩ := h i N hi
  refine ⟨ad, e2, hu, fun j u hj => ?_⟩
  have hcell := hc j u hj
  have hlt := World.block_lt_of_cell? w _ hcell
  rw [add_block] at hlt
  exact ho.cell hcell (by rw [add_block]; exact hS _ hu hlt)
theorem RdN.imp {U U' : Nat → Prop} {w : World} {v : Value} {ns : List Nd} (h : RdN U w v ns) (hU : ∀ b, U b → b < w.heap.size → U' b) : RdN U' w v ns := by
  obtain ⟨A, c, e, h⟩ := h
  refine ⟨A, c, e, fun i N hi => ?_⟩
  obtain ⟨ad, e2, hu, hc⟩ := h i N hi
  have hlt := World.block_lt_of_cell? w _ (hc 0 _ rfl)
  rw [add_block] at hlt
  exact ⟨ad, e2, hU _ hu hlt, hc⟩
theorem RdN.nil (U : Nat → Prop) (w : World) (A : Option Addr) (c : Nat) : RdN U w (.slice A 0 c) [] := ⟨A, c, rfl, fun i N h => by simp at h⟩
/-- A slice of nodes that the call made. -/
def OwnN (base : Nat) (w : World) (v : Value) (ns : List Nd) : Prop := w.ownsRow base 48 3 v ns.length (flatN ns)
theorem ownN_nil (base : Nat) (w : World) : OwnN base w (.slice none 0 0) [] := World.ownsRow_nil w base _ 3
theorem ownN_lt {base : Nat} {w : World} {v : Value} {ns : List Nd} (h : OwnN base w v ns) {b : Nat} (hb : some b = v.ownBlock) : base ≤ b ∧ b < w.heap.size := World.ownsRow.lt h b hb.symm
theorem ownN_shape {base : Nat} {w : World} {v : Value} {ns : List Nd} (h : OwnN base w v ns) : ∃ A c, v = .slice A ns.length c ∧ ns.length ≤ c ∧ (0 < ns.length → ∃ g, A = some ⟨g, 0, none⟩) := by
  rcases h.2 with ⟨rfl, h0⟩ | ⟨g, cap, cur, rfl, hb, hg, hn, _⟩
  · exact ⟨none, 0, by rw [h0], by omega, fun h => by omega⟩
  · exact ⟨some ⟨g, 0, none⟩, cap, rfl, hn, fun _ => ⟨g, rfl⟩⟩
theorem ownN_only {S : Nat → Prop} {base : Nat} {w w' : World} {v : Value} {ns : List Nd} (h : OwnN base w v ns) (ho : Only S w w') (hS : ∀ b, some b = v.ownBlock → ¬ S b) : OwnN base w' v ns := by
  obtain ⟨hl, h1⟩ := h
  refine ⟨hl, ?_⟩
  rcases h1 with h0 | ⟨g, cap, cur, hv, hb, hg, hn⟩
  · exact Or.inl h0
  · exact Or.inr ⟨g, cap, cur, hv, hb, ho.keeps hg (hS g (by rw [hv]; rfl)), hn⟩
theorem ownN_rd {base : Nat} {w : World} {v : Value} {ns : List Nd} (h : OwnN base w v ns) : RdN (fun b => some b = v.ownBlock) w v ns := by
  rcases h.2 with ⟨rfl, h0⟩ | ⟨g, cap, cur, rfl, hb, hg, hn, hc, hs, ht⟩
  · have : ns = [] := List.eq_nil_of_length_eq_zero h0
    subst this
    exact RdN.nil _ _ _ _
  · refine ⟨some ⟨g, 0, none⟩, cap, rfl, fun i N hi => ⟨_, rfl, rfl, fun j u hj => ?_⟩⟩
    have h3 := flatN_get ns i j N hi (nrow_lt hj)
    have h4 := World.ownsRow.cells h (g := g) rfl (i * 3 + j) u (by rw [h3]; exact hj)
    exact h4
theorem ownN_new {base : Nat} {w : World} (hb : base ≤ w.heap.size) : OwnN base (w.alloc (.cells #[] 48)) (.slice (some ⟨w.heap.size, 0, none⟩) 0 0) [] :=
  ⟨rfl, Or.inr ⟨w.heap.size, 0, #[], rfl, hb, alloc_new w _, Nat.le_refl _, by decide, rfl, rfl⟩⟩
theorem nrow_set {r : Nat} {val : Value} {N N' : Nd} (hN : nrow N' = (nrow N).setIfInBounds r val) {j : Nat} (hj : j ≠ r) : (nrow N')[j]? = (nrow N)[j]? := by
  rw [hN, Array.getElem?_setIfInBounds]
  rw [if_neg (fun e => hj e.symm)]
/-- A cell of one of them is written. -/
theorem ownN_set {base : Nat} {w : World} {g n c : Nat} {ns : List Nd} (h : OwnN base w (.slice (some ⟨g, 0, none⟩) n c) ns) {k r : Nat} {N N' : Nd} (hk : ns[k]? = some N) (hr : r < 3) {val : Value} (hN : nrow N' = (nrow N).setIfInBounds r val) :
    OwnN base (w.setCell ⟨g, k * 3 + r, none⟩ val) (.slice (some ⟨g, 0, none⟩) n c) (ns.set k N') := by
  obtain ⟨hl, h1⟩ := h
  have hkl := (List.getElem?_eq_some_iff.1 hk).1
  rcases h1 with ⟨e, _⟩ | ⟨g', cap, cur, hv, hb, hg, hn, hc, hs, ht⟩
  · cases e
  · injection hv with e1 e2 e3
    injection e1 with e1
    injection e1 with e1
    subst e1
    refine ⟨by rw [flatN_len], Or.inr ⟨g, cap, cur.setIfInBounds (k * 3 + r) val, by rw [List.length_set, e2, e3], hb, Joins.block_setCell hg val, by rw [List.length_set]; exact hn, hc, by rw [Array.size_setIfInBounds]; exact hs, ?_⟩⟩
    rw [List.length_set]
    apply List.ext_getElem?
    intro q
    by_cases hq : q < ns.length * 3
    · rw [List.getElem?_take_of_lt hq, Array.getElem?_toList, Array.getElem?_setIfInBounds]
      have hq3 : q / 3 < ns.length := by omega
      have hqs : q < cur.size := by rw [hs]; exact Nat.lt_of_lt_of_le hq (Nat.mul_le_mul_right 3 hn)
      have hold : cur[q]? = (flatN ns)[q]? := by rw [← ht, List.getElem?_take_of_lt hq, Array.getElem?_toList]
      by_cases hkq : q / 3 = k
      · have hnew := flatN_get (ns.set k N') k (q % 3) N' (by rw [List.getElem?_set]; simp [hkl]) (by omega)
        rw [show k * 3 + q % 3 = q by omega] at hnew
        rw [hnew]
        by_cases hr2 : k * 3 + r = q
        · rw [if_pos hr2, if_pos (by omega), show q % 3 = r by omega, hN, Array.getElem?_setIfInBounds, if_pos rfl]
          rw [if_pos (by show r < 3; exact hr)]
        · rw [if_neg hr2, hold, nrow_set hN (show q % 3 ≠ r by omega)]
          have := flatN_get ns k (q % 3) N hk (by omega)
          rw [show k * 3 + q % 3 = q by omega] at this
          exact this
      · rw [if_neg (by omega), hold]
        obtain ⟨M, hM⟩ : ∃ M, ns[q / 3]? = some M := ⟨_, List.getElem?_eq_getElem hq3⟩
        have h1 := flatN_get ns (q / 3) (q % 3) M hM (by omega)
        have h2 := flatN_get (ns.set k N') (q / 3) (q % 3) M (by rw [List.getElem?_set, if_neg (fun e => hkq e.symm)]; exact hM) (by omega)
        rw [show q / 3 * 3 + q % 3 = q by omega] at h1 h2
        rw [h1, h2]
    · rw [List.getElem?_eq_none (by rw [List.length_take]; omega), List.getElem?_eq_none (by rw [flatN_len, List.length_set]; omega)]
/-- A node is laid as a slice of one. -/
theorem layN1 (W : World) (N : Nd) : (Instr.buildSlice 25 1 #[(0, nval N)]).run Tryd.prog W = .ok (.slice (some ⟨W.heap.size, 0, none⟩) 1 1) (W.alloc (.cells (nrow N) 48)) := by
  kernel_rfl
theorem infoN_any : ∃ i : TypeInfo, Tryd.prog.info? 48 = some i ∧ i.zero.isSome = true ∧ i.size = 3 ∧ i.bytes = 48 ∧ (i.zero.getD undef).cells.size = 3 := by
  have h : (Tryd.prog.info? 48).map (fun i => (i.zero.isSome, i.size, i.bytes, (i.zero.getD undef).cells.size)) = some (true, 3, 48, 3) := by kernel_rfl
  cases hi : Tryd.prog.info? 48 with
  | none => rw [hi] at h; cases h
  | some i =>
    rw [hi] at h
    have h2 := Option.some.inj h
    simp only [Prod.mk.injEq] at h2
    exact ⟨i, rfl, h2.1, h2.2.1, h2.2.2.1, h2.2.2.2⟩
theorem RdN.flat {U : Nat → Prop} {w : World} {ad : Addr} {n c : Nat} {ns : List Nd} (h : RdN U w (.slice (some ad) n c) ns) : ∀ j u, (flatN ns)[j]? = some u → w.cell? (ad.add j) = some u := fun j u hu => by
  obtain ⟨A, c', e, h⟩ := h
  injection e with e1 e2 e3
  have hj : j < ns.length * 3 := by have := (List.getElem?_eq_some_iff.1 hu).1; rwa [flatN_len] at this
  obtain ⟨N, hN⟩ : ∃ N, ns[j / 3]? = some N := ⟨_, List.getElem?_eq_getElem (by omega)⟩
  obtain ⟨ad', e4, _, hc⟩ := h (j / 3) N hN
  rw [← e1] at e4
  injection e4 with e4
  subst e4
  have h1 := flatN_get ns (j / 3) (j % 3) N hN (by omega)
  rw [show j / 3 * 3 + j % 3 = j by omega] at h1
  have := hc (j % 3) u (by rw [← h1]; exact hu)
  rwa [show j / 3 * 3 + j % 3 = j by omega] at this
section
variable {ops : Array Oper} {rest : List Oper} {o : Oper} {a : Act} {Q : Exit → Act → World → Prop}
theorem buildN1 {W : World} (hgd : o.guard = none) (x : Operand) (ho : o.op = .buildSlice 25 1 #[(0, x)]) (N : Nd) (hx : a.eval x = nval N)
    (h : ∀ w1, w1.heap[W.heap.size]? = some (.cells (nrow N) 48 (0, 0)) → Only (fun _ => False) W w1 → wpList Tryd.prog ops Q rest (a.put o.dst (.slice (some ⟨W.heap.size, 0, none⟩) 1 1)) w1) : wpList Tryd.prog ops Q (o :: rest) a W := by
  have h1 := h (W.alloc (.cells (nrow N) 48)) (alloc_new W _) ((Only.refl (fun _ => False) W).alloc _)
  refine wpList_plain hgd fun K2 hK => ?_
  unfold Oper.wp execOp
  have e1 : (#[(0, x)] : Array (Nat × Operand)).map (fun p => (p.1, a.eval p.2)) = #[(0, nval N)] := by simp only [List.map_toArray, List.map_cons, List.map_nil, hx]
  simp only [ho, e1, Sem.run_bind, Sem.run_pure, Result.andThen_ok, layN1]
  exact hK _ _ h1
theorem rdN_one {w : World} {g c : Nat} {N : Nd} (h : w.heap[g]? = some (.cells (nrow N) 48 (0, 0))) : RdN (fun b => b = g) w (.slice (some ⟨g, 0, none⟩) 1 c) [N] :=
  ⟨_, _, rfl, fun i M hi => ⟨_, rfl, rfl, fun j u hj => by
    have h0 : i = 0 := by
      have := (List.getElem?_eq_some_iff.1 hi).1
      simp at this; exact this
    subst h0
    have : N = M := by simpa using hi
    subst this
    rw [add_lit, Nat.zero_mul, Nat.zero_add, Joins.cell_of_block h]
    exact hj⟩⟩
/-- Nodes are appended onto a slice of the call's own. -/
theorem appN_wp {W : World} {base : Nat} {K : Act → World → Prop} (s x : Operand) (ho : o.op = .call { callee := .builtin .append, args := #[s, x], argTypes := #[25, 25] })
    (v y : Value) (ns ms : List Nd) (hs : a.eval s = v) (hx : a.eval x = y) (HO : OwnN base W v ns) (U : Nat → Prop) (HR : RdN U W y ms) (hne : ms = [] → v ≠ .slice none 0 0) (hbase : base ≤ W.heap.size) (hl : ns.length + ms.length ≤ 100000)
    (h : ∀ v1 w1, OwnN base w1 v1 (ns ++ ms) → Only (fun k => some k = v.ownBlock) W w1 → (v1.ownBlock = v.ownBlock ∨ v1.ownBlock = some W.heap.size) → K (a.put o.dst v1) w1) : o.wp Tryd.prog a W K Q := by
  obtain ⟨i, hi, hz, hsz, hby, hzs⟩ := infoN_any
  obtain ⟨z, hz'⟩ := Option.isSome_iff_exists.1 hz
  rw [hz', Option.getD_some] at hzs
  obtain ⟨A, c, rfl, hc⟩ := HR
  by_cases h0 : ms = []
  · subst h0
    rcases HO.2 with ⟨e, _⟩ | ⟨g, cap, cur, hv, hb, hg, hn, hcm, hcs, ht⟩
    · exact absurd e (hne rfl)
    · have hu := Tryd.underlying25
      have hs0 : Src Tryd.prog i.size 25 (.slice A 0 c) 0 [] W := by
        cases A with
        | none => exact Src.ofNil W hu c
        | some ad => exact Src.ofSlice W hu ad 0 c [] (by simp) (fun j u hj => by simp at hj) (fun u hu => by simp at hu)
      have hr := run_append_room_src W 25 25 o.type 48 i hu hi g 0 ns.length cap (.slice A 0 c) 0 [] hs0 hn (fun j hj => by simp at hj) (fun j hj => by simp at hj)
      have h1 := h v W (by rw [List.append_nil]; exact HO) (Only.refl _ _) (Or.inl rfl)
      unfold Oper.wp execOp
      simp only [ho, resolve, invoke, builtin, Sem.run_bind, Sem.run_pure, Result.andThen_ok, List.map_toArray, List.map_cons, List.map_nil, hs, hx, hv, List.length_nil, hr]
      rw [hv] at h1
      exact h1
  · obtain ⟨N, hN⟩ : ∃ N, ms[0]? = some N := ⟨_, List.getElem?_eq_getElem (List.length_pos_iff.mpr h0)⟩
    obtain ⟨ad, rfl, _⟩ := hc 0 N hN
    have hfl := RdN.flat (U := U) (w := W) (ad := ad) (n := ms.length) (c := c) (ns := ms) ⟨_, _, rfl, hc⟩
    obtain ⟨v1, w1, hr, hown, hg, _, hat⟩ := run_append_own_at (P := Tryd.prog) W base 25 o.type 48 i z 3 48 Tryd.underlying25 hi hz' hsz hby hzs (by decide) v ns.length (flatN ns) HO ad ms.length c (flatN ms) (flatN_len ms) hfl (flatN_one ms) (by unfold maxLen; omega) (by omega) hbase
    unfold Oper.wp execOp
    simp only [ho, resolve, invoke, builtin, Sem.run_bind, Sem.run_pure, Result.andThen_ok, List.map_toArray, List.map_cons, List.map_nil, hs, hx, hr]
    refine h v1 w1 ?_ ⟨hg.os, hg.tape, hg.output, hg.size, fun k hk hn => hg.block k hk (fun e2 => hn e2)⟩ hat
    unfold OwnN
    rw [List.length_append, flatN_append]; exact hown
theorem appN {W : World} {base : Nat} (hgd : o.guard = none) (s x : Operand) (ho : o.op = .call { callee := .builtin .append, args := #[s, x], argTypes := #[25, 25] })
    (v y : Value) (ns ms : List Nd) (hs : a.eval s = v) (hx : a.eval x = y) (HO : OwnN base W v ns) (U : Nat → Prop) (HR : RdN U W y ms) (hne : ms = [] → v ≠ .slice none 0 0) (hbase : base ≤ W.heap.size) (hl : ns.length + ms.length ≤ 100000)
    (h : ∀ v1 w1, OwnN base w1 v1 (ns ++ ms) → Only (fun k => some k = v.ownBlock) W w1 → (v1.ownBlock = v.ownBlock ∨ v1.ownBlock = some W.heap.size) → wpList Tryd.prog ops Q rest (a.put o.dst v1) w1) : wpList Tryd.prog ops Q (o :: rest) a W :=
  wpList_plain hgd fun _ hK => appN_wp s x ho v y ns ms hs hx HO U HR hne hbase hl fun v1 w1 h1 h2 h3 => hK _ _ (h v1 w1 h1 h2 h3)
end
/-- A value reads as the tree below a front, d steps deep at most; its slices lie in blocks of U. -/
def TreeIn (U : Nat → Prop) (P : List (List Str)) : Nat → List Str → World → Value → Prop
  | 0, _, _, _ => False
  | d + 1, f, w, v => ∃ ns : List Nd, RdN U w v ns ∧ ns.map (·.name) = kidN P f ∧ ∀ N ∈ ns, N.ent = entN P (f ++ [N.name]) ∧ TreeIn U P d (f ++ [N.name]) w N.kids
theorem TreeIn.only {U S : Nat → Prop} {P : List (List Str)} : ∀ {d : Nat} {f : List Str} {w w' : World} {v : Value}, TreeIn U P d f w v → Only S w w' → (∀ b, U b → b < w.heap.size → ¬ S b) → TreeIn U P d f w' v
  | 0, _, _, _, _, h, _, _ => h
  | _ + 1, _, _, _, _, ⟨ns, h1, h2, h3⟩, ho, hS => ⟨ns, h1.only ho hS, h2, fun N hN => ⟨(h3 N hN).1, TreeIn.only (h3 N hN).2 ho hS⟩⟩
theorem TreeIn.imp {U U' : Nat → Prop} {P : List (List Str)} : ∀ {d : Nat} {f : List Str} {w : World} {v : Value}, TreeIn U P d f w v → (∀ b, U b → b < w.heap.size → U' b) → TreeIn U' P d f w v
  | 0, _, _, _, h, _ => h
  | _ + 1, _, _, _, ⟨ns, h1, h2, h3⟩, hU => ⟨ns, h1.imp hU, h2, fun N hN => ⟨(h3 N hN).1, TreeIn.imp (h3 N hN).2 hU⟩⟩
theorem lvN (a : Addr) (w : World) : (loadVar 25 a).run Tryd.prog w = (load a).run Tryd.prog w := by
  go_simp
end Go.Proofs.YtihcdecdkpbpmaaDoor.Walks
