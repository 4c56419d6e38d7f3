/- Slices of bytes of the call's own that grow, by slices and by strings. -/
import Derived.Test.YtpghionmmlidnaaGreatDoorOwnS
import Derived.Test.YtpghionmmlidnaaGreatDoorOpenInts
import Derived.Deep.AppendSrc
import Derived.Deep.WholeRow
import Derived.Lib.AppendStr
import Derived.Test.YtpghionmmlidnaaGreatDoorBts
namespace Go.Proofs.YtpghionmmlidnaaGreatDoor.OwnU
open Go Go.RowKit Go.Proofs.YtpghionmmlidnaaGreatDoor.Aid Go.Proofs.YtpghionmmlidnaaGreatDoorW.PrintWords

def flatU (l : List Int) : List Value := l.map (fun x => .int .u8 x)
/-- A slice of ints that the call made. -/
def OwnU (base : Nat) (w : World) (v : Value) (l : List Int) : Prop := w.ownsRow base 5 1 v l.length (flatU l)
theorem ownU_nil (base : Nat) (w : World) : OwnU base w (.slice none 0 0) [] := World.ownsRow_nil w base _ 1
theorem ownU_only {S : Nat → Prop} {base : Nat} {w w' : World} {v : Value} {l : List Int} (h : OwnU base w v l) (ho : Only S w w') (hS : ∀ b, some b = v.ownBlock → ¬ S b) : OwnU base w' v l := by
  obtain ⟨hl, h1⟩ := h
  refine ⟨hl, ?_⟩
  rcases h1 with h0 | ⟨g, cap, cur, hv, hb, hg, hn⟩
  · exact Or.inl h0
  · exact Or.inr ⟨g, cap, cur, hv, hb, ho.keeps hg (hS g (by rw [hv]; rfl)), hn⟩
theorem ownU_lt {base : Nat} {w : World} {v : Value} {l : List Int} (h : OwnU base w v l) {b : Nat} (hb : some b = v.ownBlock) : base ≤ b ∧ b < w.heap.size := World.ownsRow.lt h b hb.symm
theorem flatU_get {l : List Int} {j : Nat} (h : j < l.length) : (flatU l)[j]? = some (.int .u8 (l.getD j 0)) := by
  unfold flatU
  rw [List.getElem?_map, List.getElem?_eq_getElem h, List.getD_eq_getElem?_getD, List.getElem?_eq_getElem h]
  rfl
theorem ownU_rd {base : Nat} {w : World} {v : Value} {l : List Int} (h : OwnU base w v l) : ∃ A c, v = .slice A l.length c ∧ l.length ≤ c ∧ RdK .u8 w A l := by
  rcases h.2 with ⟨rfl, h0⟩ | ⟨g, cap, cur, rfl, hb, hg, hn, hc, hs, ht⟩
  · have : l = [] := List.eq_nil_of_length_eq_zero h0
    subst this
    exact ⟨none, 0, rfl, Nat.le_refl _, fun h => absurd h (Nat.lt_irrefl 0)⟩
  · exact ⟨some ⟨g, 0, none⟩, cap, rfl, hn, fun _ => ⟨_, rfl, fun j hj => World.ownsRow.cells h (g := g) rfl j _ (flatU_get hj)⟩⟩
theorem rdU_one {w : World} (x : Int) : RdK .u8 (w.alloc (.cells #[.int .u8 x] 5)) (some ⟨w.heap.size, 0, none⟩) [x] := fun _ => ⟨_, rfl, fun j hj => by
  obtain rfl : j = 0 := by simpa using hj
  exact Joins.cell_of_block (alloc_new w _) 0⟩
theorem infoU_any : ∃ i : TypeInfo, Tryz.prog.info? 5 = some i ∧ i.zero.isSome = true ∧ i.size = 1 ∧ i.bytes = 1 ∧ (i.zero.getD undef).cells.size = 1 := by
  have h : (Tryz.prog.info? 5).map (fun i => (i.zero.isSome, i.size, i.bytes, (i.zero.getD undef).cells.size)) = some (true, 1, 1, 1) := by kernel_rfl
  cases hi : Tryz.prog.info? 5 with
  | none => rw [hi] at h; cases h
  | some i =>
    rw [hi] at h
    have h2 := Option.some.inj h
    simp only [Prod.mk.injEq] at h2
    exact ⟨i, rfl, h2.1, h2.2.1, h2.2.2.1, h2.2.2.2⟩
/-- From v in w to v1 in w1 nothing is turned but v's own block, and v1's block is v's or a new one. -/
structure Grows (v : Value) (w : World) (v1 : Value) (w1 : World) : Prop where
  only : Only (fun k => some k = v.ownBlock) w w1
  hat : v1.ownBlock = v.ownBlock ∨ ∃ b, v1.ownBlock = some b ∧ w.heap.size ≤ b
theorem Grows.refl (v : Value) (w : World) : Grows v w v w := ⟨Only.refl _ _, Or.inl rfl⟩
theorem Grows.of {v v1 : Value} {w w1 : World} (h : Only (fun k => some k = v.ownBlock) w w1) (hat : v1.ownBlock = v.ownBlock ∨ v1.ownBlock = some w.heap.size) : Grows v w v1 w1 := ⟨h, hat.imp id (fun e => ⟨_, e, Nat.le_refl _⟩)⟩
theorem Grows.trans {v v1 v2 : Value} {w w1 w2 : World} (h : Grows v w v1 w1) (k : Grows v1 w1 v2 w2) : Grows v w v2 w2 := by
  refine ⟨h.only.trans k.only fun b hb => ?_, ?_⟩
  · rcases h.hat with e | ⟨c, e, hc⟩
    · exact Or.inl (hb.trans e)
    · have : b = c := Option.some.inj (hb.trans e)
      exact Or.inr (by rw [this]; exact hc)
  · rcases k.hat with e | ⟨c, e, hc⟩
    · rw [e]; exact h.hat
    · exact Or.inr ⟨c, e, Nat.le_trans h.only.size hc⟩
theorem Grows.quiet {v v1 : Value} {w w1 w2 : World} (h : Grows v w v1 w1) (ho : Only (fun _ => False) w1 w2) : Grows v w v1 w2 := ⟨h.only.trans' (ho.mono (fun _ _ h => h.elim)), h.hat⟩
section
variable {ops : Array Oper} {rest : List Oper} {o : Oper} {a : Act} {Q : Exit → Act → World → Prop}
/-- Ints are appended onto a slice of the call's own. -/
theorem appU {W : World} {base : Nat} (hgd : o.guard = none) (s x : Operand) (ho : o.op = .call { callee := .builtin .append, args := #[s, x], argTypes := #[26, 26] })
    (v : Value) (A : Option Addr) (n c : Nat) (l m : List Int) (hs : a.eval s = v) (hx : a.eval x = .slice A n c) (hm : m.length = n) (h0 : m = [] → v ≠ .slice none 0 0) (HO : OwnU base W v l) (HR : RdK .u8 W A m) (hbase : base ≤ W.heap.size) (hl : l.length + m.length ≤ 1000000)
    (h : ∀ v1 w1, OwnU base w1 v1 (l ++ m) → Only (fun k => some k = v.ownBlock) W w1 → (v1.ownBlock = v.ownBlock ∨ v1.ownBlock = some W.heap.size) → wpList Tryz.prog ops Q rest (a.put o.dst v1) w1) : wpList Tryz.prog ops Q (o :: rest) a W := by
  refine wpList_plain hgd fun _ hK => ?_
  obtain ⟨i, hi, hz, hsz, hby, hzs⟩ := infoU_any
  obtain ⟨z, hz'⟩ := Option.isSome_iff_exists.1 hz
  rw [hz', Option.getD_some] at hzs
  subst hm
  by_cases hm0 : m = []
  · subst hm0
    rcases HO.2 with ⟨e, _⟩ | ⟨g, cap, cur, hv, hb, hg, hn, hcm, hcs, ht⟩
    · exact absurd e (h0 rfl)
    · have hu := Tryz.underlying26
      have hs0 : Src Tryz.prog i.size 26 (.slice A 0 c) 0 [] W := by
        cases A with
        | none => exact Src.ofNil W hu c
        | some ad => exact Src.ofSlice W hu ad 0 c [] (by simp) (fun j u hj => by simp at hj) (fun u hu => by simp at hu)
      have hr := run_append_room_src W 26 26 o.type 5 i hu hi g 0 l.length cap (.slice A 0 c) 0 [] hs0 hn (fun j hj => by simp at hj) (fun j hj => by simp at hj)
      have h1 := h v W (by rw [List.append_nil]; exact HO) (Only.refl _ _) (Or.inl rfl)
      unfold Oper.wp execOp
      simp only [ho, resolve, invoke, builtin, Sem.run_bind, Sem.run_pure, Result.andThen_ok, List.map_toArray, List.map_cons, List.map_nil, hs, hx, hv, List.length_nil, hr]
      rw [hv] at h1
      exact hK _ _ h1
  · have hpos := List.length_pos_iff.mpr hm0
    obtain ⟨ad, rfl, hcell⟩ := HR hpos
    obtain ⟨v1, w1, hr, hown, hg, _, hat⟩ := run_append_own_at (P := Tryz.prog) W base 26 o.type 5 i z 1 1 Tryz.underlying26 hi hz' hsz hby hzs (by decide) v l.length (flatU l) HO ad m.length c (flatU m) (by simp [flatU]) (fun j u hu => by
      have hj : j < m.length := by have := (List.getElem?_eq_some_iff.1 hu).1; simpa [flatU] using this
      rw [flatU_get hj] at hu
      rw [hcell j hj]
      exact hu) (fun u hu => by
        obtain ⟨s, _, rfl⟩ := List.mem_map.1 hu
        rfl) (by unfold maxLen; omega) (by omega) hbase
    unfold Oper.wp execOp
    simp only [ho, resolve, invoke, builtin, Sem.run_bind, Sem.run_pure, Result.andThen_ok, List.map_toArray, List.map_cons, List.map_nil, hs, hx, hr]
    refine hK _ _ (h v1 w1 ?_ ⟨hg.os, hg.tape, hg.output, hg.size, fun k hk hn => hg.block k hk (fun e2 => hn e2)⟩ hat)
    unfold OwnU
    rw [List.length_append]
    unfold flatU
    rw [List.map_append]
    exact hown
theorem infoU_z : ∃ i : TypeInfo, Tryz.prog.info? 5 = some i ∧ i.zero = some (.int .u8 0) ∧ i.size = 1 ∧ i.bytes = 1 := by
  have h : (Tryz.prog.info? 5).map (fun i => (i.zero, i.size, i.bytes)) = some (some (.int .u8 0), 1, 1) := by kernel_rfl
  cases hi : Tryz.prog.info? 5 with
  | none => rw [hi] at h; cases h
  | some i =>
    rw [hi] at h
    have h2 := Option.some.inj h
    simp only [Prod.mk.injEq] at h2
    exact ⟨i, rfl, h2.1, h2.2.1, h2.2.2⟩
/-- Whose block the answer of such an append is. -/
theorem own_string_hat {W : World} {base n : Nat} {v : Value} {xs : List Value} (hown : W.ownsRow base 5 1 v n xs) (s : ByteArray) (ty : TypeId) (hl : n + s.size ≤ 1000000) {v1 : Value} {w1 : World} (hr : (Builtin.append_ #[26, 9] ty #[v, .string s]).run Tryz.prog W = .ok v1 w1) (hnil : v1 = .slice none 0 0 ↔ v = .slice none 0 0 ∧ s.size = 0) :
    v1.ownBlock = v.ownBlock ∨ v1.ownBlock = some W.heap.size := by
  obtain ⟨i, hi, hz, hsz, hby⟩ := infoU_z
  have hS : Src Tryz.prog i.size 9 (.string s) s.size (byteCells s) W := by rw [hsz]; exact Src.ofString W Tryz.underlying9 s
  have hfit : ∀ c, c < n + s.size → Builtin.nextslicecap (n + s.size) c * i.bytes ≤ 281474976710656 := fun c hc => by
    rw [hby]
    have := nextslicecap_le hc
    omega
  rcases hown.2 with ⟨rfl, h0⟩ | ⟨g, cap, cur, rfl, hb, hg, hn, hc, hs, ht⟩
  · by_cases hm : s.size = 0
    · left
      rw [hnil.2 ⟨rfl, hm⟩]
    · right
      have h1 := run_append_grow_src (P := Tryz.prog) (w := W) 26 9 ty 5 i (.int .u8 0) Tryz.underlying26 hi hz none 0 0 [] (by simp [Builtin.firstCells]) (.string s) s.size (byteCells s) hS (by omega) (by omega) (by have := hfit 0 (by omega); rw [h0] at this; exact this)
      exact congrArg Value.ownBlock (Result.ok.inj (hr.symm.trans h1)).1
  · by_cases hroom : n + s.size ≤ cap
    · left
      have h1 := run_append_room_src (P := Tryz.prog) (w := W) 26 9 ty 5 i Tryz.underlying26 hi g 0 n cap (.string s) s.size (byteCells s) hS hroom (fun j hj => by
        rw [byteCells_length] at hj
        rw [hsz, Nat.zero_add, Nat.mul_one, Joins.cell_of_block hg, Array.getElem?_eq_getElem (by rw [hs]; omega)]
        rfl) (fun j hj => by simp [World.frozen?, hg])
      rw [(Result.ok.inj (hr.symm.trans h1)).1]
      rfl
    · right
      have hxl : xs.length = n := by simpa using hown.1
      have h1 := run_append_grow_src (P := Tryz.prog) (w := W) 26 9 ty 5 i (.int .u8 0) Tryz.underlying26 hi hz (some ⟨g, 0, none⟩) n cap xs (run_firstCells_some (P := Tryz.prog) W.drew i.size n ⟨g, 0, none⟩ n cap xs (by rw [hxl, hsz, Nat.mul_one]) (fun j u hu => World.ownsRow.cells hown (g := g) rfl j u hu)) (.string s) s.size (byteCells s) hS (by omega) (by omega) (hfit cap (by omega))
      exact congrArg Value.ownBlock (Result.ok.inj (hr.symm.trans h1)).1
/-- A string's bytes are appended. -/
theorem appUs {W : World} {base : Nat} (hgd : o.guard = none) (s x : Operand) (ho : o.op = .call { callee := .builtin .append, args := #[s, x], argTypes := #[26, 9] })
    (v : Value) (l : List Int) (t : Pth.Str) (hs : a.eval s = v) (hx : a.eval x = .string (Pth.B t)) (HO : OwnU base W v l) (hbase : base ≤ W.heap.size) (hl : l.length + t.length ≤ 1000000)
    (h : ∀ v1 w1, OwnU base w1 v1 (l ++ Walks.ints t) → Only (fun k => some k = v.ownBlock) W w1 → (v1.ownBlock = v.ownBlock ∨ v1.ownBlock = some W.heap.size) → wpList Tryz.prog ops Q rest (a.put o.dst v1) w1) : wpList Tryz.prog ops Q (o :: rest) a W := by
  refine wpList_plain hgd fun _ hK => ?_
  obtain ⟨i, hi, hz, hsz, hby⟩ := infoU_z
  have hBs : (Pth.B t).size = t.length := Pth.B_size t
  obtain ⟨v1, w1, hr, hown, hg, hnil⟩ := Go.Lib.run_append_own_string (P := Tryz.prog) W base 26 9 o.type 5 i Tryz.underlying26 Tryz.underlying9 hi hz hsz hby v l.length (flatU l) HO (Pth.B t) (by rw [hBs]; unfold maxLen; omega) (by rw [hBs]; omega) hbase
  have hat := own_string_hat HO (Pth.B t) o.type (by rw [hBs]; exact hl) hr hnil
  unfold Oper.wp execOp
  simp only [ho, resolve, invoke, builtin, Sem.run_bind, Sem.run_pure, Result.andThen_ok, List.map_toArray, List.map_cons, List.map_nil, hs, hx, hr]
  refine hK _ _ (h v1 w1 ?_ ⟨hg.os, hg.tape, hg.output, hg.size, fun k hk hn => hg.block k hk (fun e2 => hn e2)⟩ hat)
  unfold OwnU
  have e : flatU (l ++ Walks.ints t) = flatU l ++ Go.Lib.strCells (Pth.B t) := by
    unfold flatU Walks.ints Go.Lib.strCells
    rw [List.map_append, List.map_map]
    simp [Pth.B]
  rw [List.length_append, Walks.ints_len, e, ← hBs]
  exact hown
end
end Go.Proofs.YtpghionmmlidnaaGreatDoor.OwnU
