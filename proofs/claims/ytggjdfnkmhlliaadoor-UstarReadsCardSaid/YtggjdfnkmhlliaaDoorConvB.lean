/- '[]byte(s)' and what is appended to it; 'copy(b[i:], s)' of a text. -/
import Derived.Test.YtggjdfnkmhlliaaDoorOwnB
import Derived.Lib.ConvBytes
import Derived.Lib.LazyBuf
import Derived.Deep.AppendSrc
namespace Go.Proofs.YtggjdfnkmhlliaaDoor.Own
open Go Go.RowKit Go.Proofs.YtggjdfnkmhlliaaDoor.Aid Go.Proofs.YtggjdfnkmhlliaaDoorW.PrintWords

theorem add_flat (g i j : Nat) : (⟨g, i, none⟩ : Addr).add j = ⟨g, i + j, none⟩ := by unfold Addr.add; split <;> simp_all
/-- The numbers of a list as cells. -/
theorem nums_at (l : List Int) (j : Nat) (v : Value) (h : (l.map (Value.int .u8))[j]? = some v) : j < l.length ∧ v = .int .u8 (l.getD j 0) := by
  rw [List.getElem?_map] at h
  cases hx : l[j]? with
  | none => rw [hx] at h; simp at h
  | some x =>
    rw [hx] at h
    have hj := (List.getElem?_eq_some_iff.1 hx).1
    refine ⟨hj, ?_⟩
    rw [List.getD_eq_getElem?_getD, hx]
    simpa using h.symm
theorem nums_one (l : List Int) : ∀ v ∈ l.map (Value.int .u8), v.oneCell' = true := fun v hv => by
  obtain ⟨x, _, rfl⟩ := List.mem_map.1 hv
  rfl
theorem src_nums {W : World} {A : Option Addr} {ys : List Int} (c : Nat) (hA : RdK .u8 W A ys) : Src Tryd.prog 1 22 (.slice A ys.length c) ys.length (ys.map (Value.int .u8)) W := by
  by_cases h : 0 < ys.length
  · obtain ⟨ad, rfl, hc⟩ := hA h
    refine Src.ofSlice W Tryd.underlying22 ad ys.length c _ (by simp) (fun j u hu => ?_) (nums_one ys)
    obtain ⟨hj, rfl⟩ := nums_at ys j u hu
    exact hc j hj
  · have e : ys = [] := List.eq_nil_of_length_eq_zero (by omega)
    subst e
    cases A with
    | none => exact Src.ofNil W Tryd.underlying22 c
    | some ad => exact Src.ofSlice W Tryd.underlying22 ad 0 c [] (by simp) (fun j u hu => by simp at hu) (fun u hu => by simp at hu)
theorem info5' : ∃ i : TypeInfo, Tryd.prog.info? 5 = some i ∧ i.size = 1 ∧ i.zero = some (.int .u8 0) ∧ i.bytes = 1 := by
  have h := info5
  cases hi : Tryd.prog.info? 5 with
  | none => rw [hi] at h; cases h
  | some i =>
    rw [hi] at h
    simp only [Option.map_some, Option.some.injEq, Prod.mk.injEq] at h
    exact ⟨i, rfl, h.2.1, h.1, h.2.2⟩
theorem append_onto {W : World} {g n cap : Nat} {m ys : List Int} {A : Option Addr} (c : Nat) (ty : TypeId) (hm : m.length = n)
    (hcell : ∀ j, j < n → W.cell? ⟨g, j, none⟩ = some (.int .u8 (m.getD j 0))) (hroom : ∀ j, j < cap → (W.cell? ⟨g, j, none⟩).isSome = true ∧ W.frozen? ⟨g, j, none⟩ = false)
    (hA : RdK .u8 W A ys) (hl : n + ys.length ≤ 1000000) :
    ∃ B c' W', (Builtin.append_ #[22, 22] ty #[.slice (some ⟨g, 0, none⟩) n cap, .slice A ys.length c]).run Tryd.prog W = .ok (.slice B (n + ys.length) c') W' ∧ n + ys.length ≤ c' ∧ RdK .u8 W' B (m ++ ys) ∧
      ∀ base w0, base ≤ g → base ≤ W.heap.size → Below base w0 W → Below base w0 W' := by
  obtain ⟨i, hi, hi1, hi2, hi3⟩ := info5'
  have hs : Src Tryd.prog i.size 22 (.slice A ys.length c) ys.length (ys.map (Value.int .u8)) W := by rw [hi1]; exact src_nums c hA
  by_cases hr : n + ys.length ≤ cap
  · have h := run_append_room_src (P := Tryd.prog) W 22 22 ty 5 i Tryd.underlying22 hi g 0 n cap _ ys.length _ hs hr (fun j hj => by
      rw [List.length_map] at hj; rw [hi1]; have := (hroom (n + j) (by omega)).1; simpa using this) (fun j hj => by
      rw [List.length_map] at hj; rw [hi1]; have := (hroom (n + j) (by omega)).2; simpa using this)
    rw [hi1, Nat.zero_add, Nat.mul_one] at h
    refine ⟨_, _, _, h, hr, fun _ => ⟨_, rfl, fun j hj => ?_⟩, fun base w0 hb _ hB => below_setCells hb _ _ _ hB⟩
    rw [List.length_append] at hj
    rw [add_flat, Nat.zero_add]
    by_cases h1 : j < n
    · rw [World.cell?_setCells_out _ _ _ _ _ (fun _ _ => Or.inl h1), hcell j h1, List.getD_eq_getElem?_getD, List.getD_eq_getElem?_getD, List.getElem?_append_left (by omega)]
    · have hj2 : j - n < (ys.map (Value.int .u8)).length := by rw [List.length_map]; omega
      have := World.cell?_setCells_in g (ys.map (Value.int .u8)) n W (fun k hk => by rw [List.length_map] at hk; exact (hroom (n + k) (by omega)).1) (j - n) hj2
      rw [show n + (j - n) = j by omega] at this
      rw [this, List.getElem_map, List.getD_eq_getElem?_getD, List.getElem?_append_right (by omega), hm, List.getElem?_eq_getElem (by simpa using hj2), Option.getD_some]
  · have hold : (Builtin.firstCells i.size n (.slice (some ⟨g, 0, none⟩) n cap)).run Tryd.prog W.drew = .ok (m.map (Value.int .u8)).toArray W.drew := by
      rw [hi1]
      refine run_firstCells_some W.drew 1 n ⟨g, 0, none⟩ n cap _ (by simp [hm]) (fun j v hv => ?_)
      obtain ⟨hj, rfl⟩ := nums_at m j v hv
      rw [add_flat, Nat.zero_add]
      exact hcell j (by omega)
    have h := run_append_grow_src (P := Tryd.prog) W 22 22 ty 5 i (.int .u8 0) Tryd.underlying22 hi hi2 (some ⟨g, 0, none⟩) n cap _ hold _ ys.length _ hs (by omega) (by omega) (growslice_fits (by omega) (by rw [hi3]; omega))
    refine ⟨_, _, _, h, grownCap_ge _ _ _ _, fun _ => ⟨_, rfl, fun j hj => ?_⟩, fun base w0 _ hb hB => hB.drew.alloc hb _⟩
    rw [List.length_append] at hj
    rw [add_flat, Nat.zero_add]
    have hn := alloc_new W.drew (.cells ((m.map (Value.int .u8) ++ ys.map (Value.int .u8)).toArray ++ Builtin.zeroCells (Value.int .u8 0).cells (grownCap W (n + ys.length) cap 5 - (n + ys.length))) 5)
    have hz : (W.drew.alloc (.cells ((m.map (Value.int .u8) ++ ys.map (Value.int .u8)).toArray ++ Builtin.zeroCells (Value.int .u8 0).cells (grownCap W (n + ys.length) cap 5 - (n + ys.length))) 5)).heap[W.heap.size]? = _ := hn
    rw [World.cell?]
    simp only [hz]
    have hj3 : j < (m ++ ys).length := by rw [List.length_append]; omega
    rw [← List.map_append, Array.getElem?_append_left (by simpa using hj3), List.getElem?_toArray, List.getElem?_map, List.getElem?_eq_getElem hj3, List.getD_eq_getElem?_getD, List.getElem?_eq_getElem hj3]
    rfl
/-- A block of a conversion: the bytes, and what may be written. -/
def ConvAt (w : World) (g cap : Nat) (m : List Int) : Prop :=
  m.length ≤ cap ∧ (∀ j, j < m.length → w.cell? ⟨g, j, none⟩ = some (.int .u8 (m.getD j 0))) ∧ ∀ j, j < cap → (w.cell? ⟨g, j, none⟩).isSome = true ∧ w.frozen? ⟨g, j, none⟩ = false
theorem conv_new (W : World) (S : ByteArray) {m : List Int} (hS : S = strOfNums m) (bm : ∀ x ∈ m, 0 ≤ x ∧ x < 256) : ConvAt (Lib.bytesWorld W 5 S) W.heap.size (grownCap W S.size 0 5) m := by
  have hs : S.size = m.length := by rw [hS, strOfNums_size]
  have hg := grownCap_ge W S.size 0 5
  have hn := Lib.bytesWorld_at_new W 5 S
  have hz : (Lib.bytesCells W 5 S).size = grownCap W S.size 0 5 := by
    unfold Lib.bytesCells
    rw [Array.size_append, Array.size_map, Array.size_replicate]
    have : S.data.size = S.size := rfl
    omega
  refine ⟨by omega, fun j hj => ?_, fun j hj => ⟨?_, ?_⟩⟩
  · rw [Lib.bytesWorld_cell W 5 S j (by omega), hS, strOfNums_data]
    rw [List.getD_eq_getElem?_getD, List.getElem?_map, List.getElem?_eq_getElem hj, List.getD_eq_getElem?_getD, List.getElem?_eq_getElem hj]
    have := bm _ (List.getElem_mem hj)
    simp only [Option.map_some, Option.getD_some]
    rw [UInt8.toNat_ofNat']
    have e3 : ((m[j].toNat % 2 ^ 8 : Nat) : Int) = m[j] := by omega
    rw [e3]
  · rw [World.cell?]
    simp only [hn]
    rw [Array.getElem?_eq_getElem (by omega)]; rfl
  · rw [World.frozen?]
    simp only [hn]
    rw [hz]
    have : ¬ grownCap W S.size 0 5 ≤ j := by omega
    simp [this]
section
variable {ops : Array Oper} {rest : List Oper} {o : Oper} {a : Act} {Q : Exit → Act → World → Prop}
theorem conv_law {w0 W : World} {base : Nat} (hgd : o.guard = none) (x : Operand) (ho : o.op = .convert 9 22 x) (S : ByteArray) (hx : a.eval x = .string S) (m : List Int) (hS : S = strOfNums m) (bm : ∀ x ∈ m, 0 ≤ x ∧ x < 256)
    (HB : Below base w0 W) (hbase : base ≤ W.heap.size)
    (h : ∀ g cap w1, ConvAt w1 g cap m → base ≤ g → Below base w0 w1 → base ≤ w1.heap.size → wpList Tryd.prog ops Q rest (a.put o.dst (.slice (some ⟨g, 0, none⟩) m.length cap)) w1) : wpList Tryd.prog ops Q (o :: rest) a W := by
  have hrun := Lib.run_convert_string_bytes (P := Tryd.prog) W 9 22 5 S Tryd.underlying9 Tryd.underlying22 Tryd.underlying5
  have hs : S.size = m.length := by rw [hS, strOfNums_size]
  refine wpList_plain hgd fun K hK => ?_
  unfold Oper.wp execOp
  simp only [ho, hx, Sem.run_bind, hrun, Result.andThen_ok]
  rw [hs]
  refine hK _ _ ?_
  rw [← hs]
  have := h W.heap.size (grownCap W S.size 0 5) _ (conv_new W S hS bm) hbase (bytes_below HB hbase 5 S) (by rw [Lib.bytesWorld_size]; omega)
  rwa [← hs] at this
theorem onto_law {w0 W : World} {base : Nat} (hgd : o.guard = none) (s x : Operand) (ho : o.op = .call { callee := .builtin .append, args := #[s, x], argTypes := #[22, 22] })
    {g cap n : Nat} {m ys : List Int} {A : Option Addr} {c : Nat} (hs : a.eval s = .slice (some ⟨g, 0, none⟩) n cap) (hx : a.eval x = .slice A ys.length c) (hm : m.length = n) (hC : ConvAt W g cap m) (hA : RdK .u8 W A ys) (hl : n + ys.length ≤ 1000000)
    (hg : base ≤ g) (HB : Below base w0 W) (hbase : base ≤ W.heap.size)
    (h : ∀ B c' w1, n + ys.length ≤ c' → RdK .u8 w1 B (m ++ ys) → Below base w0 w1 → wpList Tryd.prog ops Q rest (a.put o.dst (.slice B (n + ys.length) c')) w1) : wpList Tryd.prog ops Q (o :: rest) a W := by
  obtain ⟨B, c', W', hrun, h1, h2, h3⟩ := append_onto (W := W) (g := g) (n := n) (cap := cap) (m := m) c o.type hm (fun j hj => hC.2.1 j (by omega)) hC.2.2 hA hl
  refine wpList_plain hgd fun K hK => ?_
  unfold Oper.wp execOp
  simp only [ho, resolve, invoke, builtin, Sem.run_bind, Sem.run_pure, Result.andThen_ok, List.map_toArray, List.map_cons, List.map_nil, hs, hx, hrun]
  exact hK _ _ (h B c' W' h1 h2 (h3 base w0 hg hbase HB))
theorem own_setCells {base g n cap : Nat} : ∀ (xs : List Int) (i : Nat) (w : World) (l : List Int), Own base w (.slice (some ⟨g, 0, none⟩) n cap) l →
    ∃ l', l'.length = l.length ∧ (∀ x ∈ l', x ∈ l ∨ x ∈ xs) ∧ Own base (w.setCells g i (xs.map (Value.int .u8))) (.slice (some ⟨g, 0, none⟩) n cap) l'
  | [], i, w, l, h => ⟨l, rfl, fun x hx => Or.inl hx, h⟩
  | x :: r, i, w, l, h => by
    obtain ⟨l', h1, h2, h3⟩ := own_setCells r (i + 1) _ _ (Own.putn h i x)
    refine ⟨l', by rw [h1, List.length_set], fun y hy => ?_, h3⟩
    rcases h2 y hy with h4 | h4
    · rcases List.mem_or_eq_of_mem_set h4 with h5 | h5
      · exact Or.inl h5
      · exact Or.inr (by rw [h5]; exact List.mem_cons_self)
    · exact Or.inr (List.mem_cons_of_mem _ h4)
theorem copy_law {w0 W : World} {base : Nat} (hgd : o.guard = none) (d x : Operand) (ho : o.op = .call { callee := .builtin .copy, args := #[d, x], argTypes := #[22, 9] })
    {g off n cap dLen dCap : Nat} (hd : a.eval d = .slice (some ⟨g, off, none⟩) dLen dCap) (S : ByteArray) (hx : a.eval x = .string S) (hle : S.size ≤ dLen) {l : List Int} (hn : l.length = n) (HO : Own base W (.slice (some ⟨g, 0, none⟩) n cap) l)
    (hoff : off + S.size ≤ n) (HB : Below base w0 W) (hbase : base ≤ g)
    (h : ∀ l' w1, l'.length = n → (∀ x ∈ l', x ∈ l ∨ (0 ≤ x ∧ x < 256)) → Own base w1 (.slice (some ⟨g, 0, none⟩) n cap) l' → Below base w0 w1 → wpList Tryd.prog ops Q rest (a.put o.dst (goInt S.size)) w1) : wpList Tryd.prog ops Q (o :: rest) a W := by
  obtain ⟨i, hi, hi1, _, _⟩ := info5'
  have hz : ∀ w, (Go.sizeOf 5).run Tryd.prog w = .ok 1 w := fun w => by simp [Go.sizeOf, typeInfo, hi, hi1]
  have hrun := run_copy_string (P := Tryd.prog) W 22 9 o.type 5 g off dLen dCap S Tryd.underlying22 hz hle
    (fun j hj => by rw [Own.cell HO (j := off + j) (by omega)]; rfl) (fun j hj => Own.frozen HO (j := off + j) (by omega))
  obtain ⟨l', h1, h2, h3⟩ := own_setCells (S.data.toList.map fun x => (x.toNat : Int)) off W l HO
  rw [List.map_map] at h3
  refine wpList_plain hgd fun K hK => ?_
  unfold Oper.wp execOp
  simp only [ho, resolve, invoke, builtin, Sem.run_bind, Sem.run_pure, Result.andThen_ok, List.map_toArray, List.map_cons, List.map_nil, hd, hx, hrun]
  refine hK _ _ (h l' _ (by omega) (fun y hy => ?_) h3 (below_setCells hbase _ _ _ HB))
  rcases h2 y hy with h4 | h4
  · exact Or.inl h4
  · obtain ⟨b, _, rfl⟩ := List.mem_map.1 h4
    exact Or.inr ⟨by omega, by have := b.toNat_lt; omega⟩
end
end Go.Proofs.YtggjdfnkmhlliaaDoor.Own
