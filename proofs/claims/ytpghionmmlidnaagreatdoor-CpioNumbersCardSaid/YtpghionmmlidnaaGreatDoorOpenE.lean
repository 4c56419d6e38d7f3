/- Entries that come in, by value and in slices, laid open. -/
import Derived.Test.YtpghionmmlidnaaGreatDoorOpenN
import Derived.Test.YtpghionmmlidnaaGreatDoorGrt
import Derived.Test.YtpghionmmlidnaaGreatDoorEntS
import Derived.OpenShut
import Derived.ChangeOld
import Derived.SizedLaws
namespace Go.Proofs.YtpghionmmlidnaaGreatDoor.Walks
open Go Go.RowKit Go.Proofs.YtpghionmmlidnaaGreatDoor.Aid Go.Proofs.YtpghionmmlidnaaGreatDoor.Pth Go.Proofs.YtpghionmmlidnaaGreatDoor.Own Go.Proofs.YtpghionmmlidnaaGreatDoorW.PrintWords Go.ChangeShapes Go.WideShapes Go.Joins Go.Deep

section
variable {H : Type} {enc : TypeId × Value → H} {W : World}
theorem i64_bd {x : Int} (h : (Lit.int .i64 x).wf = true) : -9223372036854775808 ≤ x ∧ x ≤ 9223372036854775807 := by
  have := i64_b h; omega
theorem float_of {n : Nat} {v : Value} {y : DataW H × List MemPlace} (h : DataW.trod enc Tryz.prog W 0 (fun _ => true) true n 38 [v] = some y) : ∃ r, v = .float .f64 r := by
  cases n with
  | zero => simp [DataW.trod] at h
  | succ n =>
    unfold DataW.trod at h
    simp only [Tryz.underlying38] at h
    cases v <;> simp at h
    obtain ⟨⟨rfl, _⟩, _⟩ := h
    exact ⟨_, rfl⟩
theorem bytes_of {n : Nat} {v : Value} {y : DataW H × List MemPlace} (h : DataW.trod enc Tryz.prog W 0 (fun _ => true) true n 26 [v] = some y) : ∃ A l c, v = .slice A l.length c ∧ l.length ≤ c ∧ l.length ≤ 9223372036854775807 ∧ RdU W A l := by
  rcases open_ints Tryz.underlying26 Tryz.underlying5 (by kernel_rfl) h with ⟨hcs, _⟩ | ⟨x, l, cc, zs, hcs, _, hl, hm, hz, _, hcell, hwz⟩
  · simp at hcs
    exact ⟨none, [], 0, by rw [hcs]; rfl, by simp, by simp, RdU.nil _ _⟩
  · simp at hcs
    have hz' : zs.length = cc := by simpa using hz
    unfold maxLen at hm
    have hlen : (zs.take l).length = l := by rw [List.length_take]; omega
    obtain ⟨s, hs⟩ := bytes_str (m := zs.take l) (fun x hx => u8_b (hwz x (List.mem_of_mem_take hx)))
    have hsl : s.length = l := by rw [← ints_len, hs, hlen]
    refine ⟨some x, s, cc, by rw [hcs, hsl], by omega, by omega, ?_⟩
    unfold RdU
    rw [hs]
    intro _
    refine ⟨x, rfl, fun j hj => ?_⟩
    rw [hlen] at hj
    rw [hcell j (by omega)]
    congr 2
    simp only [List.getD_eq_getElem?_getD, List.getElem?_take, if_pos hj]
/-- Eight cells that read as an entry. -/
theorem entry_of {n : Nat} {vs : Nat → Value} {fs : Array Field} (hf : Tryz.prog.underlying 47 = some (.struct fs)) (h : ∀ j f, fs[j]? = some f → ∃ y : DataW H × List MemPlace, DataW.trod enc Tryz.prog W 0 (fun _ => true) true n f.type [vs j] = some y) :
    ∃ e : Ent3, EntAt W e.1 e.2.1 e.2.2 ∧ EIn e.1 ∧ ∀ j, j < 8 → (erow e.1 e.2.1 e.2.2)[j]? = some (vs j) := by
  have hu := hf.symm.trans Tryz.underlying47
  injection hu with hu
  injection hu with hu
  subst hu
  obtain ⟨y0, t0⟩ := h 0 _ rfl
  obtain ⟨y1, t1⟩ := h 1 _ rfl
  obtain ⟨y2, t2⟩ := h 2 _ rfl
  obtain ⟨y3, t3⟩ := h 3 _ rfl
  obtain ⟨y4, t4⟩ := h 4 _ rfl
  obtain ⟨y5, t5⟩ := h 5 _ rfl
  obtain ⟨y6, t6⟩ := h 6 _ rfl
  obtain ⟨y7, t7⟩ := h 7 _ rfl
  obtain ⟨s0, e0, _, b0⟩ := DataW.trod_string Tryz.underlying9 t0
  obtain ⟨x1, e1, _, b1⟩ := DataW.trod_int Tryz.underlying3 t1
  obtain ⟨x2, e2, _, b2⟩ := DataW.trod_int Tryz.underlying3 t2
  obtain ⟨x3, e3, _, b3⟩ := DataW.trod_int Tryz.underlying3 t3
  obtain ⟨x4, e4, _, b4⟩ := DataW.trod_int Tryz.underlying3 t4
  obtain ⟨x5, e5⟩ := float_of t5
  obtain ⟨s6, e6, _, b6⟩ := DataW.trod_string Tryz.underlying9 t6
  obtain ⟨A7, l7, c7, e7, h7, h7', r7⟩ := bytes_of t7
  simp only [List.cons.injEq, and_true] at e0 e1 e2 e3 e4 e6
  have sz (s : ByteArray) (h : s.size ≤ maxLen) : s.data.toList.length ≤ 9223372036854775807 := by
    unfold maxLen at h
    show s.data.toList.length ≤ _
    rw [Array.length_toList]; exact h
  refine ⟨(⟨s0.data.toList, x1, x2, x3, x4, x5, s6.data.toList, l7⟩, A7, c7), ⟨r7, h7⟩, ⟨i64_bd b1, i64_bd b2, i64_bd b3, i64_bd b4, sz _ b0, sz _ b6, h7'⟩, fun j hj => ?_⟩
  unfold erow
  simp only [data_B]
  rcases (show j = 0 ∨ j = 1 ∨ j = 2 ∨ j = 3 ∨ j = 4 ∨ j = 5 ∨ j = 6 ∨ j = 7 by omega) with rfl | rfl | rfl | rfl | rfl | rfl | rfl | rfl
  · rw [e0]; rfl
  · rw [e1]; rfl
  · rw [e2]; rfl
  · rw [e3]; rfl
  · rw [e4]; rfl
  · rw [e5]; rfl
  · rw [e6]; rfl
  · rw [e7]; rfl
theorem one8 {fs : Array Field} (h : Tryz.prog.underlying 47 = some (.struct fs)) : oneCellFields Tryz.prog fs = true := by
  have h1 : (Tryz.prog.underlying 47).map (fun u => match u with | .struct fs => oneCellFields Tryz.prog fs | _ => false) = some true := by kernel_rfl
  rw [h] at h1
  exact Option.some.inj h1
theorem cells8 : Tryz.prog.cellsOf 47 = 8 := by kernel_rfl
set_option maxRecDepth 100000 in
theorem open_ents {v : Value} {d : DataW H} {p : List MemPlace} {base : Nat} (ov : Value.okWide Tryz.prog W .any base 22 v) (k : DataW.Trod enc Tryz.prog W 0 (fun _ => true) true 22 v d p) :
    ∃ A l n c M, v = .slice A n c ∧ l.length = n ∧ n ≤ c ∧ n ≤ 9223372036854775807 ∧ RdE W A l M ∧ ∀ E ∈ l, EIn E := by
  obtain ⟨A, n, c, rfl⟩ := okWide_slice Tryz.underlying22 ov
  obtain ⟨fuel, hf⟩ := k
  obtain ⟨fs, hfs⟩ := rowE
  have hsz : fs.size = 8 := by
    have hu := hfs.symm.trans Tryz.underlying47
    injection hu with hu
    injection hu with hu
    rw [hu]; rfl
  have hone : oneCellFields Tryz.prog fs = true := one8 hfs
  have hC : Tryz.prog.cellsOf 47 = fs.size := by rw [hsz]; exact cells8
  rcases open_slice_fields Tryz.underlying22 hfs hone hC hf with ⟨hcs, _⟩ | ⟨a, len, cap, m, D, Pl, hcs, _, hl, hm, hmm, _, hi⟩
  · simp [Value.cells] at hcs
    obtain ⟨rfl, rfl, rfl⟩ := hcs
    exact ⟨none, [], 0, 0, fun _ => (none, 0), rfl, rfl, Nat.le_refl _, by omega, RdE.nil _ _ _, fun E hE => by cases hE⟩
  · simp [Value.cells] at hcs
    obtain ⟨rfl, rfl, rfl⟩ := hcs
    have hmn : m = c := by rw [hmm]; rfl
    unfold maxLen at hm
    have hex : ∀ i, ∃ e : Ent3, i < n → EntAt W e.1 e.2.1 e.2.2 ∧ EIn e.1 ∧ ∀ j v, (erow e.1 e.2.1 e.2.2)[j]? = some v → W.cell? (a.add (i * 8 + j)) = some v := by
      intro i
      by_cases hin : i < n
      · obtain ⟨ys, nn, _, _, hyl, hg⟩ := hi i (by omega)
        obtain ⟨e, h1, h2, h3⟩ := entry_of (n := nn) (vs := fun j => (W.cell? (a.add (i * fs.size + j))).getD undef) hfs (fun j f hj => by
          obtain ⟨v, y, hv, _, ht⟩ := hg j f hj
          refine ⟨y, ?_⟩
          rw [hv]; exact ht)
        refine ⟨e, fun _ => ⟨h1, h2, fun j v hv => ?_⟩⟩
        have hj : j < 8 := by
          by_cases cc : j < 8
          · exact cc
          · have : (erow e.1 e.2.1 e.2.2)[j]? = none := Array.getElem?_eq_none (by show 8 ≤ j; omega)
            rw [this] at hv; cases hv
        have h4 := h3 j hj
        rw [hv] at h4
        obtain ⟨v', y, hv', _, _⟩ := hg j (fs[j]'(by omega)) (Array.getElem?_eq_getElem (by omega))
        rw [hsz] at hv' h4
        rw [hv', Option.getD_some] at h4
        rw [hv', h4]
      · exact ⟨(e0, none, 0), fun h => absurd h hin⟩
    let f := fun i => (hex i).choose
    have hfp : ∀ i, i < n → EntAt W (f i).1 (f i).2.1 (f i).2.2 ∧ EIn (f i).1 ∧ ∀ j v, (erow (f i).1 (f i).2.1 (f i).2.2)[j]? = some v → W.cell? (a.add (i * 8 + j)) = some v := fun i hin => (hex i).choose_spec hin
    refine ⟨some a, (List.range n).map (fun i => (f i).1), n, c, fun i => (f i).2, rfl, by rw [List.length_map, List.length_range], hl, by omega, fun i E hE => ?_, fun E hE => ?_⟩
    · rw [List.getElem?_map] at hE
      obtain ⟨i', hi', hE'⟩ := Option.map_eq_some_iff.1 hE
      have hlt := (List.getElem?_eq_some_iff.1 hi').1
      rw [List.length_range] at hlt
      rw [List.getElem?_range hlt] at hi'
      injection hi' with hi'
      subst hi'
      subst hE'
      obtain ⟨h1, _, h3⟩ := hfp i hlt
      exact ⟨h1, a, rfl, h3⟩
    · obtain ⟨i, hi', hE'⟩ := List.mem_map.1 hE
      subst hE'
      exact (hfp i (List.mem_range.1 hi')).2.1
set_option maxRecDepth 100000 in
theorem open_ent {v : Value} {d : DataW H} {p : List MemPlace} {base : Nat} (ov : Value.okWide Tryz.prog W .any base 47 v) (k : DataW.Trod enc Tryz.prog W 0 (fun _ => true) true 47 v d p) :
    ∃ E A c, v = eval E A c ∧ EntAt W E A c ∧ EIn E := by
  obtain ⟨fs, hfs⟩ := rowE
  have hu := hfs.symm.trans Tryz.underlying47
  injection hu with hu
  injection hu with hu
  have hsz : fs.size = 8 := by rw [hu]; rfl
  obtain ⟨cs, n, rfl, hn, hf⟩ := open_aggN hfs (one8 hfs) (by rw [hsz]; exact cells8) ov k
  obtain ⟨e, h1, h2, h3⟩ := entry_of (n := n) (vs := fun j => cs[j]?.getD undef) hfs (fun j f hj => by
    obtain ⟨c, y, hc, ht⟩ := hf j f hj
    refine ⟨y, ?_⟩
    rw [hc]; exact ht)
  refine ⟨e.1, e.2.1, e.2.2, ?_, h1, h2⟩
  unfold eval
  congr 1
  apply Array.ext_getElem?
  intro i
  by_cases hi : i < 8
  · rw [h3 i hi, Array.getElem?_eq_getElem (by rw [hn, hsz]; exact hi)]; rfl
  · rw [Array.getElem?_eq_none (by rw [hn, hsz]; omega), Array.getElem?_eq_none (by show 8 ≤ i; omega)]
end
end Go.Proofs.YtpghionmmlidnaaGreatDoor.Walks
