/- Slices of entries of the call's own: append of one entry. A copy of a slice of entries: append onto an empty slice. -/
import Derived.Test.YtpghionmmlidnaaGreatDoorEntS
import Derived.Test.YtpghionmmlidnaaGreatDoorRSame
import Derived.Maps.AppendAt
import Derived.Deep.AppendSrc
namespace Go.Proofs.YtpghionmmlidnaaGreatDoor.Walks
open Go Go.RowKit Go.Proofs.YtpghionmmlidnaaGreatDoor.Aid Go.Proofs.YtpghionmmlidnaaGreatDoor.Pth Go.Proofs.YtpghionmmlidnaaGreatDoor.Own Go.Proofs.YtpghionmmlidnaaGreatDoorW.PrintWords

theorem flat_len (es : List Ent3) : (flat es).length = es.length * 8 := by
  induction es with
  | nil => rfl
  | cons e r ih =>
    have : flat (e :: r) = (erow e.1 e.2.1 e.2.2).toList ++ flat r := rfl
    rw [this, List.length_append, ih, List.length_cons, Nat.add_mul, Nat.one_mul, Nat.add_comm]
    rfl
theorem flat_append (es fs : List Ent3) : flat (es ++ fs) = flat es ++ flat fs := by unfold flat; rw [List.flatMap_append]
theorem flat_one' (e : Ent3) : ∀ u ∈ flat [e], u.oneCell' = true := fun u hu => by
  have h := erow_one e.1 e.2.1 e.2.2
  rw [Array.all_eq_true'] at h
  have hm : u ∈ (erow e.1 e.2.1 e.2.2).toList := by simpa [flat] using hu
  exact h u (by simpa using hm)
/-- A slice of entries that the call made; no entry's data lies in the slice's own block. -/
def OwnE (base : Nat) (w : World) (v : Value) (es : List Ent3) : Prop :=
  w.ownsRow base 47 8 v es.length (flat es) ∧ ∀ e ∈ es, EntAt w e.1 e.2.1 e.2.2 ∧ ∀ ad, e.2.1 = some ad → 0 < e.1.data.length → some ad.block ≠ v.ownBlock
theorem ownE_nil (base : Nat) (w : World) : OwnE base w (.slice none 0 0) [] := ⟨World.ownsRow_nil w base _ 8, fun e h => by cases h⟩
/-- Where a slice's entries lie. -/
def atE (es : List Ent3) (i : Nat) : Option Addr × Nat := (es[i]?.map (·.2)).getD (none, 0)
theorem ownE_rd {base : Nat} {w : World} {v : Value} {es : List Ent3} (h : OwnE base w v es) : ∃ A c, v = .slice A es.length c ∧ es.length ≤ c ∧ RdE w A (es.map (·.1)) (atE es) := by
  obtain ⟨⟨hl, h1⟩, h2⟩ := h
  rcases h1 with ⟨rfl, h0⟩ | ⟨g, cap, cur, rfl, hb, hg, hn, hc, hs, ht⟩
  · have : es = [] := List.eq_nil_of_length_eq_zero h0
    subst this
    exact ⟨none, 0, rfl, Nat.le_refl _, RdE.nil _ _ _⟩
  · refine ⟨some ⟨g, 0, none⟩, cap, rfl, hn, fun i E hi => ?_⟩
    rw [List.getElem?_map] at hi
    obtain ⟨e, he, hee⟩ := Option.map_eq_some_iff.1 hi
    subst hee
    have ea : atE es i = e.2 := by unfold atE; rw [he]; rfl
    rw [ea]
    refine ⟨(h2 e (List.mem_of_getElem? he)).1, _, rfl, fun j v hv => ?_⟩
    have hj : j < 8 := by
      by_cases c : j < 8
      · exact c
      · have : (erow e.1 e.2.1 e.2.2)[j]? = none := Array.getElem?_eq_none (by show 8 ≤ j; omega)
        rw [this] at hv; cases hv
    have h3 := flat_get es i j e he hj
    rw [hv, ← ht] at h3
    have hlt : i * 8 + j < (cur.toList.take (es.length * 8)).length := (List.getElem?_eq_some_iff.1 h3).1
    rw [List.length_take] at hlt
    rw [List.getElem?_take_of_lt (by omega), Array.getElem?_toList] at h3
    have h4 : (⟨g, 0, none⟩ : Addr).add (i * 8 + j) = ⟨g, i * 8 + j, none⟩ := by unfold Addr.add; split <;> simp_all
    rw [h4, Joins.cell_of_block hg, h3]
theorem ownE_only {base : Nat} {w w' : World} {v : Value} {es : List Ent3} (h : OwnE base w v es) (ho : Only (fun _ => False) w w') : OwnE base w' v es := by
  obtain ⟨⟨hl, h1⟩, h2⟩ := h
  refine ⟨⟨hl, ?_⟩, fun e he => ⟨(h2 e he).1.only ho, (h2 e he).2⟩⟩
  rcases h1 with h0 | ⟨g, cap, cur, hv, hb, hg, hn⟩
  · exact Or.inl h0
  · exact Or.inr ⟨g, cap, cur, hv, hb, ho.keeps hg id, hn⟩
theorem ownE_lt {base : Nat} {w : World} {v : Value} {es : List Ent3} (h : OwnE base w v es) {b : Nat} (hb : v.ownBlock = some b) : b < w.heap.size ∧ base ≤ b := by
  rcases h.1.2 with ⟨rfl, _⟩ | ⟨g, cap, cur, rfl, h1, h2, _⟩
  · cases hb
  · have : g = b := Option.some.inj hb
    subst this
    exact ⟨Only.heap_lt h2, h1⟩
theorem EntAt.apart {w w' : World} {E : Ent} {A : Option Addr} {c : Nat} {b : Option Nat} (h : EntAt w E A c) (hg : w.grownBy w' b) (hb : ∀ ad, A = some ad → 0 < E.data.length → some ad.block ≠ b) : EntAt w' E A c := by
  refine ⟨fun h0 => ?_, h.2⟩
  obtain ⟨ad, e, hc⟩ := h.1 h0
  have h1 : 0 < E.data.length := by rw [ints_len] at h0; exact h0
  refine ⟨ad, e, fun j hj => ?_⟩
  have hcell := hc j hj
  have hlt := World.block_lt_of_cell? w _ hcell
  have hbl : (ad.add j).block = ad.block := by unfold Addr.add; split <;> rfl
  have hk := hg.block (ad.add j).block hlt (by rw [hbl]; first | exact hb ad e h1 | exact fun e2 => hb ad e h1 e2.symm)
  simpa [World.cell?, hk] using hcell
theorem infoE_any : ∃ i : TypeInfo, Tryz.prog.info? 47 = some i ∧ i.zero.isSome = true ∧ i.size = 8 ∧ i.bytes = 96 ∧ (i.zero.getD undef).cells.size = 8 := by
  have h : (Tryz.prog.info? 47).map (fun i => (i.zero.isSome, i.size, i.bytes, (i.zero.getD undef).cells.size)) = some (true, 8, 96, 8) := by kernel_rfl
  cases hi : Tryz.prog.info? 47 with
  | none => rw [hi] at h; cases h
  | some i =>
    rw [hi] at h
    have h2 := Option.some.inj h
    simp only [Prod.mk.injEq] at h2
    exact ⟨i, rfl, h2.1, h2.2.1, h2.2.2.1, h2.2.2.2⟩
section
variable {ops : Array Oper} {rest : List Oper} {o : Oper} {a : Act} {Q : Exit → Act → World → Prop}
theorem ownE_append {W : World} {base : Nat} (hgd : o.guard = none) (s x : Operand) (ho : o.op = .call { callee := .builtin .append, args := #[s, x], argTypes := #[22, 22] })
    (v : Value) (es : List Ent3) (e : Ent3) (b c : Nat) (hs : a.eval s = v) (hx : a.eval x = .slice (some ⟨b, 0, none⟩) 1 c) (HO : OwnE base W v es) (M : Nat → Option Addr × Nat) (hM : M 0 = e.2) (HR : RdE W (some ⟨b, 0, none⟩) [e.1] M)
    (hfar : ∀ ad, e.2.1 = some ad → 0 < e.1.data.length → some ad.block ≠ v.ownBlock) (hbase : base ≤ W.heap.size) (hl : es.length ≤ 100000)
    (h : ∀ v1 w1, OwnE base w1 v1 (es ++ [e]) → Only (fun k => base ≤ k) W w1 → wpList Tryz.prog ops Q rest (a.put o.dst v1) w1) : wpList Tryz.prog ops Q (o :: rest) a W := by
  obtain ⟨i, hi, hz, hsz, hby, hzs⟩ := infoE_any
  obtain ⟨z, hz'⟩ := Option.isSome_iff_exists.1 hz
  rw [hz', Option.getD_some] at hzs
  obtain ⟨hE, ad0, e0', hcell⟩ := HR 0 e.1 rfl
  injection e0' with e0'
  subst e0'
  rw [hM] at hE hcell
  refine wpList_append_own_at W hgd s x 22 ho base 47 i z 8 96 Tryz.underlying22 hi hz' hsz hby hzs (by decide) v es.length (flat es) hs HO.1 ⟨b, 0, none⟩ 1 c (flat [e]) hx (flat_len [e]) ?_ (flat_one' e) (by unfold maxLen; omega) (by omega) hbase ?_
  · intro j u hu
    have hj : j < 8 := by have := (List.getElem?_eq_some_iff.1 hu).1; rw [flat_len] at this; simpa using this
    have h3 := flat_get [e] 0 j e rfl hj
    rw [Nat.zero_mul, Nat.zero_add] at h3
    have := hcell j u (by rw [← h3]; exact hu)
    rwa [Nat.zero_mul, Nat.zero_add] at this
  · intro v1 w1 hown hg _ hat
    refine h v1 w1 ⟨?_, fun f hf => ?_⟩ ⟨hg.os, hg.tape, hg.output, hg.size, fun k hk hn => hg.block k hk (fun e2 => hn ?_)⟩
    · rw [List.length_append, flat_append]; exact hown
    · have hef : EntAt W f.1 f.2.1 f.2.2 ∧ ∀ ad, f.2.1 = some ad → 0 < f.1.data.length → some ad.block ≠ v.ownBlock := by
        rcases List.mem_append.1 hf with h5 | h5
        · exact HO.2 f h5
        · rw [List.mem_singleton.1 h5]; exact ⟨hE, hfar⟩
      refine ⟨hef.1.apart hg hef.2, fun ad e2 h0 => ?_⟩
      rcases hat with h6 | h6
      · rw [h6]; exact hef.2 ad e2 h0
      · rw [h6]
        intro h7
        injection h7 with h7
        obtain ⟨ad', e3, hc⟩ := hef.1.1 (by rw [ints_len]; exact h0)
        rw [e2] at e3
        injection e3 with e3
        subst e3
        have hlt := World.block_lt_of_cell? W _ (hc 0 (by rw [ints_len]; exact h0))
        have hbl : (ad.add 0).block = ad.block := by unfold Addr.add; split <;> rfl
        rw [hbl, h7] at hlt
        exact absurd hlt (Nat.lt_irrefl _)
    · rcases HO.1.2 with ⟨h0, _⟩ | ⟨g, cap, cur, hv, hb, _⟩
      · rw [h0] at e2; cases e2
      · rw [hv] at e2
        have : k = g := Option.some.inj e2
        omega
end
end Go.Proofs.YtpghionmmlidnaaGreatDoor.Walks
namespace Go.Proofs.YtpghionmmlidnaaGreatDoor.Walks
open Go Go.RowKit Go.Proofs.YtpghionmmlidnaaGreatDoor.Aid Go.Proofs.YtpghionmmlidnaaGreatDoor.Pth Go.Proofs.YtpghionmmlidnaaGreatDoor.Own Go.Proofs.YtpghionmmlidnaaGreatDoorW.PrintWords

/-- The entries of a slice with where their data lies. -/
def withM (l : List Ent) (M : Nat → Option Addr × Nat) : List Ent3 := (List.range l.length).map (fun i => (l.getD i e0, M i))
theorem withM_len (l : List Ent) (M : Nat → Option Addr × Nat) : (withM l M).length = l.length := by unfold withM; rw [List.length_map, List.length_range]
theorem withM_get {l : List Ent} {M : Nat → Option Addr × Nat} {i : Nat} (hi : i < l.length) : (withM l M)[i]? = some (l.getD i e0, M i) := by
  unfold withM
  rw [List.getElem?_map, List.getElem?_range hi]; rfl
theorem withM_fst (l : List Ent) (M : Nat → Option Addr × Nat) : (withM l M).map (·.1) = l := by
  apply List.ext_getElem?
  intro i
  rw [List.getElem?_map]
  by_cases hi : i < l.length
  · rw [withM_get hi, List.getElem?_eq_getElem hi]
    simp [hi]
  · rw [List.getElem?_eq_none (by rw [withM_len]; omega), List.getElem?_eq_none (by omega)]; rfl
theorem rde_cells {w : World} {ad : Addr} {l : List Ent} {M : Nat → Option Addr × Nat} (h : RdE w (some ad) l M) : ∀ j u, (flat (withM l M))[j]? = some u → w.cell? (ad.add j) = some u := fun j u hu => by
  have hj : j < l.length * 8 := by have := (List.getElem?_eq_some_iff.1 hu).1; rwa [flat_len, withM_len] at this
  have hi : j / 8 < l.length := by omega
  have h1 := flat_get (withM l M) (j / 8) (j % 8) _ (withM_get hi) (by omega)
  rw [show j / 8 * 8 + j % 8 = j by omega] at h1
  obtain ⟨_, ad', e, h2⟩ := h (j / 8) (l.getD (j / 8) e0) (by rw [List.getD_eq_getElem?_getD, List.getElem?_eq_getElem hi]; rfl)
  injection e with e
  subst e
  have := h2 (j % 8) u (by rw [← h1]; exact hu)
  rwa [show j / 8 * 8 + j % 8 = j by omega] at this
theorem flat_one (es : List Ent3) : ∀ u ∈ flat es, u.oneCell' = true := fun u hu => by
  unfold flat at hu
  obtain ⟨e, _, hu⟩ := List.mem_flatMap.1 hu
  exact flat_one' e u (by simpa [flat] using hu)
section
variable {ops : Array Oper} {rest : List Oper} {o : Oper} {a : Act} {Q : Exit → Act → World → Prop}
theorem copyE {W : World} (hgd : o.guard = none) (s x : Operand) (ho : o.op = .call { callee := .builtin .append, args := #[s, x], argTypes := #[22, 22] })
    (g : Nat) (hs : a.eval s = .slice (some ⟨g, 0, none⟩) 0 0) {l : List Ent} {A : Option Addr} {n c : Nat} {M : Nat → Option Addr × Nat} (hx : a.eval x = .slice A n c) (hn : l.length = n) (hR : RdE W A l M) (hl : n ≤ 100000)
    (h : ∀ A1 c1 w1, n ≤ c1 → RdE w1 A1 l M → Only (fun _ => False) W w1 → wpList Tryz.prog ops Q rest (a.put o.dst (.slice A1 n c1)) w1) : wpList Tryz.prog ops Q (o :: rest) a W := by
  obtain ⟨i, hi, hz, hsz, hby, hzs⟩ := infoE_any
  obtain ⟨z, hz'⟩ := Option.isSome_iff_exists.1 hz
  have hu := Tryz.underlying22
  have key : ∃ A1 c1 w1, (Builtin.append_ #[22, 22] o.type #[.slice (some ⟨g, 0, none⟩) 0 0, .slice A n c]).run Tryz.prog W = .ok (.slice A1 n c1) w1 ∧ n ≤ c1 ∧ RdE w1 A1 l M ∧ Only (fun _ => False) W w1 := by
    by_cases h0 : n = 0
    · subst h0
      have hle : l = [] := List.eq_nil_of_length_eq_zero hn
      subst hle
      have hs0 : Src Tryz.prog i.size 22 (.slice A 0 c) 0 [] W := by
        cases A with
        | none => exact Src.ofNil W hu c
        | some ad => exact Src.ofSlice W hu ad 0 c [] (by simp) (fun j u hj => by simp at hj) (fun u hu => by simp at hu)
      refine ⟨some ⟨g, 0, none⟩, 0, W, ?_, Nat.le_refl _, RdE.nil _ _ _, Only.refl _ _⟩
      exact run_append_room_src W 22 22 o.type 47 i hu hi g 0 0 0 (.slice A 0 c) 0 [] hs0 (Nat.le_refl _) (fun j hj => by simp at hj) (fun j hj => by simp at hj)
    · obtain ⟨hE0, ad, rfl, _⟩ := hR 0 (l.getD 0 e0) (by rw [List.getD_eq_getElem?_getD, List.getElem?_eq_getElem (by omega)]; rfl)
      have hs0 : Src Tryz.prog i.size 22 (.slice (some ad) n c) n (flat (withM l M)) W := Src.ofSlice W hu ad n c _ (by rw [flat_len, withM_len, hn, hsz]) (rde_cells hR) (flat_one _)
      have hr := run_append_grow_src W 22 22 o.type 47 i z hu hi hz' (some ⟨g, 0, none⟩) 0 0 [] (by simp [Builtin.firstCells, loadCells, loadCellsFrom]) (.slice (some ad) n c) n _ hs0 (by omega) (by omega) (growslice_fits (by omega) (by rw [hby]; omega))
      rw [Nat.zero_add, List.nil_append] at hr
      have hO := (Only.refl (fun _ => False) W).drew.alloc (.cells ((flat (withM l M)).toArray ++ Builtin.zeroCells z.cells (grownCap W n 0 47 - n)) 47)
      refine ⟨_, _, _, hr, grownCap_ge W n 0 _, fun j E hj => ?_, hO⟩
      have hj' : j < l.length := (List.getElem?_eq_some_iff.1 hj).1
      have hEj : l.getD j e0 = E := by rw [List.getD_eq_getElem?_getD, hj]; rfl
      refine ⟨(hR j E hj).1.only hO, _, rfl, fun r v hv => ?_⟩
      have hr8 : r < 8 := by
        by_cases cc : r < 8
        · exact cc
        · have : (erow E (M j).1 (M j).2)[r]? = none := Array.getElem?_eq_none (by show 8 ≤ r; omega)
          rw [this] at hv; cases hv
      have h1 := flat_get (withM l M) j r _ (withM_get hj') hr8
      rw [hEj] at h1
      have h2 : (⟨W.heap.size, 0, none⟩ : Addr).add (j * 8 + r) = ⟨W.heap.size, j * 8 + r, none⟩ := by unfold Addr.add; split <;> simp_all
      rw [h2]
      have hb := alloc_new W.drew (.cells ((flat (withM l M)).toArray ++ Builtin.zeroCells z.cells (grownCap W n 0 47 - n)) 47)
      have hc2 := Joins.cell_of_block hb (j * 8 + r)
      have hlt : j * 8 + r < (flat (withM l M)).length := by rw [flat_len, withM_len]; omega
      rw [show W.drew.heap.size = W.heap.size from rfl] at hc2
      rw [hc2, Array.getElem?_append_left (by simpa using hlt), List.getElem?_toArray, h1]
      exact hv
  obtain ⟨A1, c1, w1, hr, h1, h2, h3⟩ := key
  refine wpList_plain hgd fun K hK => ?_
  unfold Oper.wp execOp
  simp only [ho, resolve, invoke, builtin, Sem.run_bind, Sem.run_pure, Result.andThen_ok, List.map_toArray, List.map_cons, List.map_nil, hs, hx, hr]
  exact hK _ _ (h A1 c1 w1 h1 h2 h3)
end
end Go.Proofs.YtpghionmmlidnaaGreatDoor.Walks
