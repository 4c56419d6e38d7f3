/- Contract of entry.Tree. -/
import Derived.Test.YtihcdecdkpbpmaaDoorTld
import Derived.Test.YtihcdecdkpbpmaaDoorRSame
import Derived.Test.YtihcdecdkpbpmaaDoorRPath
import Derived.LaidEqlPtr
namespace Go.Proofs.YtihcdecdkpbpmaaDoor.Walks
open Go Go.RowKit Go.Maps Go.WideMaps Go.Proofs.YtihcdecdkpbpmaaDoor.Aid Go.Proofs.YtihcdecdkpbpmaaDoor.Pth Go.Proofs.YtihcdecdkpbpmaaDoor.Own Go.Proofs.YtihcdecdkpbpmaaDoor.OwnS Go.Proofs.YtihcdecdkpbpmaaDoorW.PrintWords

/-- The paths' parts. -/
def pathsL (l : List Ent) : List (List Str) := l.map (fun E => splitL E.path)
theorem total_mem {xs : List Str} {p : Str} (h : p ∈ xs) : p.length + 1 ≤ total xs := by
  induction xs with
  | nil => cases h
  | cons x r ih =>
    rw [total_cons]
    rcases List.mem_cons.1 h with e | h
    · rw [e]; omega
    · have := ih h; omega
theorem split_part {l p : Str} (h : p ∈ splitL l) : p.length ≤ l.length := by
  unfold splitL at h
  split at h
  · have h1 := total_mem h
    rw [total_parts] at h1
    omega
  · cases h
theorem ex_snoc {P : List (List Str)} {p g : List Str} : Ex (P ++ [p]) g ↔ Ex P g ∨ g <+: p := by
  unfold Ex
  constructor
  · rintro (h | ⟨q, hq, h⟩)
    · exact Or.inl (Or.inl h)
    · rcases List.mem_append.1 hq with hq | hq
      · exact Or.inl (Or.inr ⟨q, hq, h⟩)
      · rw [List.mem_singleton.1 hq] at h; exact Or.inr h
  · rintro ((h | ⟨q, hq, h⟩) | h)
    · exact Or.inl h
    · exact Or.inr ⟨q, List.mem_append_left _ hq, h⟩
    · exact Or.inr ⟨p, List.mem_append_right _ (List.mem_singleton.2 rfl), h⟩
theorem pre_take {g p : List Str} {k : Nat} {n : Str} (hk : p[k]? = some n) : g <+: p.take (k + 1) ↔ g <+: p.take k ∨ g = p.take k ++ [n] := by
  have e : p.take (k + 1) = p.take k ++ [n] := by rw [List.take_add_one, hk]; rfl
  rw [e, List.prefix_concat_iff]
  exact ⟨fun h => h.elim Or.inr Or.inl, fun h => h.elim Or.inr Or.inl⟩
/-- The forest while path p is walked, k parts deep. -/
def Mid (P : List (List Str)) (p : List Str) (k : Nat) (g : List Str) : Prop := Ex P g ∨ g <+: p.take k
theorem mid_zero {P : List (List Str)} {p g : List Str} : Ex P g ↔ Mid P p 0 g := by
  unfold Mid
  constructor
  · exact Or.inl
  · rintro (h | h)
    · exact h
    · rw [List.take_zero, List.prefix_nil] at h; exact Or.inl h
theorem mid_at {P : List (List Str)} {p : List Str} {k : Nat} : Mid P p k (p.take k) := Or.inr (List.prefix_refl _)
theorem mid_more {P : List (List Str)} {p : List Str} {k : Nat} {n : Str} (hk : p[k]? = some n) {g : List Str} : (Mid P p k g ∨ g = p.take k ++ [n]) ↔ Mid P p (k + 1) g := by
  unfold Mid
  rw [pre_take hk]
  constructor
  · rintro ((h | h) | h)
    · exact Or.inl h
    · exact Or.inr (Or.inl h)
    · exact Or.inr (Or.inr h)
  · rintro (h | h | h)
    · exact Or.inl (Or.inl h)
    · exact Or.inl (Or.inr h)
    · exact Or.inr h
theorem ent_fresh {P : List (List Str)} {p : List Str} {k : Nat} {n : Str} (h : ¬ Mid P p k (p.take k ++ [n])) : entN P (p.take k ++ [n]) = -1 := by
  have h1 := (entN_bd P (p.take k ++ [n])).1
  have h2 : ¬ 0 ≤ entN P (p.take k ++ [n]) := fun h3 => h (Or.inl (Or.inr ⟨_, entN_mem.1 h3, List.prefix_refl _⟩))
  omega
theorem hN3 {N i n k m : Nat} (h : N ≤ i * 6000 + k) (hi : i ≤ n) (hn : n ≤ 12) (hk : k ≤ m) (hm : m ≤ 5001) : N ≤ 100000 := by omega
theorem hbq {P : List (List Str)} {p fk : List Str} {k : Nat} {q : Str} {nd : List Str → Nat × Nat} {v : Nat × Nat} (h : ¬ Mid P p k (fk ++ [q])) (hf : Mid P p k fk) : (updF nd (fk ++ [q]) v fk).2 = (nd fk).2 := by
  rw [updF_other]
  intro e
  rw [← e] at h; exact h hf
theorem nodeInfo : ∃ j, Tryd.prog.info? 52 = some j ∧ j.size = 2 := by
  have h : (Tryd.prog.info? 52).map (·.size) = some 2 := by kernel_rfl
  cases hi : Tryd.prog.info? 52 with
  | none => rw [hi] at h; cases h
  | some j => rw [hi] at h; exact ⟨j, rfl, Option.some.inj h⟩
theorem neq_same (w : World) (a : Addr) : (binOp .neq 49 (.pointer (some a)) (.pointer (some a))).run Tryd.prog w = .ok (.bool false) w := by
  obtain ⟨j, hj, _⟩ := nodeInfo
  have h : ∀ d : Nat, (Op.equalIn (d + 1) 49 (.pointer (some a)) (.pointer (some a))).run Tryd.prog w = .ok true w := fun d => by
    simp [Op.equalIn, run_underlying Tryd.underlying49, sizeOf, typeInfo, hj, run_sameAddr_same]
  simp only [binOp]
  simp [Op.equal, Op.maxDepth, h 9999]
theorem neq_other (w : World) {a b : Addr} {ca cb : Array Value} {ta tb : TypeId} (hne : a ≠ b) (ha : w.heap[a.block]? = some (.cells ca ta (0, 0))) (hb : w.heap[b.block]? = some (.cells cb tb (0, 0))) :
    (binOp .neq 49 (.pointer (some a)) (.pointer (some b))).run Tryd.prog w = .ok (.bool true) w := by
  obtain ⟨j, hj, hs⟩ := nodeInfo
  have h : ∀ d : Nat, (Op.equalIn (d + 1) 49 (.pointer (some a)) (.pointer (some b))).run Tryd.prog w = .ok false w := fun d => by
    simp [Op.equalIn, run_underlying Tryd.underlying49, sizeOf, typeInfo, hj, hs, run_sameAddr_other w hne ha hb]
  simp only [binOp]
  simp [Op.equal, Op.maxDepth, h 9999]
/-- All the nodes are the call's own. -/
def Far (w : World) (nd : List Str → Nat × Nat) (X : List Str → Prop) : Prop := ∀ g, X g → w.heap.size ≤ (nd g).1 ∧ w.heap.size ≤ (nd g).2
theorem far_new {w : World} {nd : List Str → Nat × Nat} {X X' : List Str → Prop} {f : List Str} {b : Nat} (h : Far w nd X) (hb : w.heap.size ≤ b) (hX : ∀ g, X' g → X g ∨ g = f) : Far w (updF nd f (b + 1, b)) X' := fun g hg => by
  by_cases e : g = f
  · rw [e, updF_same]; exact ⟨Nat.le_succ_of_le hb, hb⟩
  · rw [updF_other _ _ e]; exact h g ((hX g hg).elim id (fun e2 => absurd e2 e))
theorem cell_ne_map {w : World} {a : Addr} {v : Value} {b n : Nat} {D : DataW Unit} (hc : w.cell? a = some v) (hm : w.ownsMap Tryd.prog 9 nodeElem b n D) : a.block ≠ b := fun e => by
  obtain ⟨es, clock, hb, _⟩ := hm
  rw [← e] at hb
  simp [World.cell?, hb] at hc
theorem rdS_map {w u : World} {nd : List Str → Nat × Nat} {X : List Str → Prop} {en : List Str → Int} {N : Nat} {f : List Str} {A : Option Addr} {L : List ByteArray} (hR : RdS w A L) (hF : Forest w nd X en N) (hf : X f) (ho : Only (fun k => k = (nd f).2) w u) : RdS u A L := fun h0 => by
  obtain ⟨ad, e, hc⟩ := hR h0
  obtain ⟨ns, _, _, hm⟩ := hF.kids f hf
  exact ⟨ad, e, fun j hj => ho.cell (hc j hj) (cell_ne_map (hc j hj) hm)⟩
attribute [-go_sem] loadVar
attribute [local go_sem] lv9 lv3 lvM
set_option maxRecDepth 100000 in
set_option maxHeartbeats 4000000 in
theorem tree_any {w : World} {A : Option Addr} {l : List Ent} {n c : Nat} {M : Nat → Option Addr × Nat} (hn : l.length = n) (hl : n ≤ 12) (hR : RdE w A l M) (hE : ∀ E ∈ l, E.path.length ≤ 5000) (hm : MaxLen w) :
    Calls Tryd.prog 10 #[.slice A n c] w (ToldPost (pathsL l) 6001 [] w) := by
  have hmm := @run_makeMap Tryd.prog
  have HN := Lib.hid hn
  have HR := Lib.hid hR
  have HE := Lib.hid hE
  have HM := Lib.hid hm
  have b1 : n ≤ 12 := hl
  clear hn hl hR hE hm
  go_enter Tryd.func10, Tryd.ntmps10
  go_wp2_with fail
  have HF0 := Lib.hid (forest_root w)
  have HU0 := Lib.hid (show Only (fun _ => False) w ((w.alloc (.map #[] 0)).alloc (.cells #[.int .i64 0, .map (some w.heap.size)] 52)) from ((Only.refl _ w).alloc _).alloc _)
  obtain ⟨V, hV⟩ : ∃ V, (w.alloc (.map #[] 0)).alloc (.cells #[.int .i64 0, .map (some w.heap.size)] 52) = V := ⟨_, rfl⟩
  obtain ⟨gm, hgm⟩ : ∃ gm, w.heap.size = gm := ⟨_, rfl⟩
  obtain ⟨rt, hrt⟩ : ∃ rt, gm + 1 = rt := ⟨_, rfl⟩
  rw [hV] at HF0 HU0 ⊢
  rw [hgm] at HF0 ⊢
  rw [hrt] at HF0 ⊢
  have HRt := Lib.hid (show w.heap.size ≤ rt ∧ w.heap.size ≤ gm by omega)
  clear hV hgm hrt
  go_loopw [14] (fun v14 u => ∃ (i : Nat) (nd : List Str → Nat × Nat) (en : List Str → Int) (N : Nat), v14 = .int .i64 (i : Int) ∧ i ≤ n ∧ Hid (Forest u nd (Ex ((pathsL l).take i)) en N) ∧ Hid (∀ g, g ≠ [] → Ex ((pathsL l).take i) g → en g = entN ((pathsL l).take i) g) ∧ Hid (Only (fun _ => False) w u) ∧ Hid ((nd []).1 = rt ∧ N ≤ i * 6000) ∧ Hid (Far w nd (Ex ((pathsL l).take i)))) (fun i _ => n - (intOf i).toNat)
  case atStart => exact ⟨0, _, _, _, rfl, by omega, Lib.hid (HF0.out.congr (fun f => by unfold Ex; simp) (fun _ _ => rfl)), Lib.hid (fun g h0 h => by unfold Ex at h; simp at h; exact absurd h h0), HU0, Lib.hid ⟨rfl, Nat.zero_le _⟩, Lib.hid (fun g _ => HRt.out)⟩
  case round =>
    clear HF0 HU0
    obtain ⟨i, nd, en, N, rfl, hi, HF, HEn, HU, HQ, HFar⟩ := hrel
    by_cases ci : i < n
    · have e1 : decide ((i : Int) < (n : Int)) = true := decide_eq_true (by omega)
      have e1' : decide (i < n) = true := decide_eq_true ci
      have e2 : (i : Int) < (n : Int) := by omega
      have hil : i < l.length := by rw [HN.out]; exact ci
      obtain ⟨ad, rfl, hat, hen⟩ := (HR.out.only HU.out).at hil
      have hEm : l.getD i e0 ∈ l := by rw [List.getD_eq_getElem?_getD, List.getElem?_eq_getElem hil]; exact List.getElem_mem hil
      obtain ⟨E, hE⟩ : ∃ E, l.getD i e0 = E := ⟨_, rfl⟩
      obtain ⟨B1, hB1⟩ : ∃ B1, (M i).1 = B1 := ⟨_, rfl⟩
      obtain ⟨c1, hc1⟩ : ∃ c1, (M i).2 = c1 := ⟨_, rfl⟩
      rw [hE, hB1, hc1] at hat
      rw [hE] at hEm
      have HEl := Lib.hid (HE.out E hEm)
      have HC := Lib.hid (show ∀ j v, (erow E B1 c1)[j]? = some v → wr.cell? ((ad.add (i * 8)).add j) = some v from hat)
      have HTk := Lib.hid (show (pathsL l).take (i + 1) = (pathsL l).take i ++ [splitL E.path] by
        unfold pathsL
        rw [← List.map_take, ← List.map_take, List.take_add_one, List.getElem?_eq_getElem hil, List.map_append]
        rw [List.getD_eq_getElem?_getD, List.getElem?_eq_getElem hil] at hE
        rw [← hE]; rfl)
      have HPl := Lib.hid (show ((pathsL l).take i).length = i by unfold pathsL; rw [List.length_take, List.length_map, HN.out]; omega)
      obtain ⟨P, hP⟩ : ∃ P, (pathsL l).take i = P := ⟨_, rfl⟩
      obtain ⟨p, hp⟩ : ∃ p, splitL E.path = p := ⟨_, rfl⟩
      rw [hP] at HF HEn HTk HPl HFar
      rw [hp] at HTk
      have HPp := Lib.hid hp
      have HPn := Lib.hid (show p.length ≤ 5001 by rw [← hp]; have := splitL_le E.path; have := HEl.out; omega)
      clear hE hB1 hc1 hat hen hEm hil hP hp
      go_upto_region 6 with (first
        | ((with_reducible refine gate 18 rfl ?_); refine load_entA rfl _ rfl rfl HC.out ?_)
        | ((with_reducible refine gate_store 32 rfl ?_); refine store_newE rfl rfl E B1 c1 _ _ rfl rfl rfl ?_; intro w3 hb3 ho3; have HB3 := Lib.hid hb3; have HO3 := Lib.hid ho3; clear hb3 ho3))
      obtain ⟨g3, hg3⟩ : ∃ g3, wr.heap.size = g3 := ⟨_, rfl⟩
      rw [hg3] at HB3 ⊢
      have k0 : w3.cell? ⟨g3, 0, none⟩ = some (.string (B E.path)) := Joins.cell_of_block HB3.out 0
      replace HU := Lib.hid (HU.out.trans' HO3.out)
      replace HF := Lib.hid (HF.out.only HO3.out (fun _ _ => id))
      have HSp := Lib.hid (split_right (B E.path) w3 (by rw [B_size]; have := HEl.out; omega) (HM.out.only HU.out))
      rw [B_data, HPp.out] at HSp
      clear hg3 HB3 HO3 HC
      clear wr
      go_wp2_with (go_at_call 27; refine HSp.out.mono ?_; rintro x w4 ⟨A4, c4, rfl, hc4, hr4, ho4⟩; have HR4 := Lib.hid hr4; have HU4 := Lib.hid (HU.out.trans' ho4); have HF4 := Lib.hid (HF.out.only ho4 (fun _ _ => id)); clear hr4 ho4 hc4)
      go_loopw [6, 24] (fun v6 v24 u => ∃ (k : Nat) (nd : List Str → Nat × Nat) (en : List Str → Int) (N : Nat), v24 = .int .i64 (k : Int) ∧ k ≤ p.length ∧ v6 = .pointer (some ⟨(nd (p.take k)).1, 0, none⟩) ∧ Hid (Forest u nd (Mid P p k) en N) ∧ Hid (∀ g, g ≠ [] → Mid P p k g → en g = entN P g) ∧ Hid (Only (fun _ => False) w u) ∧ Hid (RdS u A4 (p.map B)) ∧ Hid ((nd []).1 = rt ∧ N ≤ i * 6000 + k) ∧ Hid (Far w nd (Mid P p k))) (fun _ k _ => p.length - (intOf k).toNat)
      case atStart => exact ⟨0, nd, en, N, rfl, Nat.zero_le _, by rw [List.take_zero, HQ.out.1], Lib.hid (HF4.out.congr (fun f => mid_zero) (fun _ _ => rfl)), Lib.hid (fun g h0 h => HEn.out g h0 (mid_zero.2 h)), HU4, HR4, Lib.hid ⟨HQ.out.1, HQ.out.2⟩, Lib.hid (fun g h => HFar.out g (mid_zero.2 h))⟩
      case round =>
        clear HF HEn HU HF4 HU4 HR4 HQ HSp k0 HFar
        clear nd en N w3 w4
        obtain ⟨k, nd, en, N, rfl, hk, rfl, HF, HEn, HU, HR4, HQ, HFar⟩ := hrel
        have b3 : p.length ≤ 5001 := HPn.out
        by_cases ck : k < p.length
        · have f1 : decide ((k : Int) < (p.length : Int)) = true := decide_eq_true (by omega)
          have f1' : decide (k < p.length) = true := decide_eq_true ck
          have f2 : (k : Int) < (p.length : Int) := by omega
          obtain ⟨q, hq⟩ : ∃ q, p[k]? = some q := ⟨_, List.getElem?_eq_getElem ck⟩
          obtain ⟨ad4, rfl, hc4⟩ := HR4.out (by rw [List.length_map]; omega)
          have k4 : wr.cell? (ad4.add k) = some (.string (B q)) := by
            rw [hc4 k (by rw [List.length_map]; exact ck), getD_map ck, List.getD_eq_getElem?_getD, hq]; rfl
          have HQl := Lib.hid (show q.length ≤ 500000 by
            have h1 : q ∈ splitL E.path := by rw [HPp.out]; exact List.mem_of_getElem? hq
            have h2 := split_part h1
            have := HEl.out
            omega)
          have HMore := Lib.hid (fun g => mid_more (P := P) hq (g := g))
          have HTk1 := Lib.hid (show p.take (k + 1) = p.take k ++ [q] by rw [List.take_add_one, hq]; rfl)
          have HFr := Lib.hid (fun h => ent_fresh (P := P) (p := p) (k := k) (n := q) h)
          have HAt := Lib.hid (mid_at (P := P) (p := p) (k := k))
          have k1 : wr.cell? ⟨(nd (p.take k)).1, 1, none⟩ = some (.map (some (nd (p.take k)).2)) := Joins.cell_of_block (HF.out.node _ HAt.out) 1
          obtain ⟨fk, hfk⟩ : ∃ fk, p.take k = fk := ⟨_, rfl⟩
          rw [hfk] at HMore HTk1 HFr HAt k1 ⊢
          clear hq hfk hc4
          by_cases cx : Mid P p k (fk ++ [q])
          · have HCx := Lib.hid cx
            clear cx
            go_wp2_with (first
              | ((with_reducible refine gate 33 rfl ?_); refine lookupN HF.out HAt.out HQl.out rfl _ _ rfl rfl rfl rfl (some ⟨(nd (fk ++ [q])).1, 0, none⟩) (fun _ => rfl) (fun h => absurd HCx.out h) ?_)
              | ((with_reducible refine gate 48 rfl ?_); refine lookupN HF.out HAt.out HQl.out rfl _ _ rfl rfl rfl rfl (some ⟨(nd (fk ++ [q])).1, 0, none⟩) (fun _ => rfl) (fun h => absurd HCx.out h) ?_))
            refine ⟨⟨k + 1, nd, en, N, by simp, by omega, by rw [HTk1.out], Lib.hid (HF.out.congr (fun g => ⟨fun h => (HMore.out g).1 (Or.inl h), fun h => ((HMore.out g).2 h).elim id (fun e => by rw [e]; exact HCx.out)⟩) (fun _ _ => rfl)), Lib.hid (fun g h0 h => HEn.out g h0 (((HMore.out g).2 h).elim id (fun e => by rw [e]; exact HCx.out))), HU, HR4, Lib.hid ⟨HQ.out.1, by have := HQ.out.2; omega⟩, Lib.hid (fun g h => HFar.out g (((HMore.out g).2 h).elim id (fun e => by rw [e]; exact HCx.out)))⟩, by simp [intOf]; omega⟩
          · have HCx := Lib.hid cx
            clear cx
            go_wp2_with (first
              | ((with_reducible refine gate 33 rfl ?_); refine lookupN HF.out HAt.out HQl.out rfl _ _ rfl rfl rfl rfl none (fun h => absurd h HCx.out) (fun _ => rfl) ?_)
              | (at_mapUpdate; refine updateN HF.out (hN3 HQ.out.2 hi b1 hk b3) HAt.out HQl.out HCx.out rfl _ _ _ rfl rfl rfl rfl ?_; intro w5 hF5 ho5; have HF5 := Lib.hid hF5; have HO5 := Lib.hid ho5; have k5 : w5.cell? ⟨(nd fk).1, 1, none⟩ = some (.map (some (nd fk).2)) := ho5.cell k1 (HF.out.ne12 HAt.out HAt.out); clear hF5 ho5)
              | ((with_reducible refine gate 48 rfl ?_); refine lookupN HF5.out (Or.inl HAt.out) HQl.out rfl _ _ rfl (hbq HCx.out HAt.out) rfl rfl (some ⟨wr.heap.size + 1, 0, none⟩) (fun _ => by rw [updF_same]) (fun h => absurd (Or.inr rfl) h) ?_))
            have HFn := Lib.hid (HF5.out.congr (X' := Mid P p (k + 1)) (en' := updF en (fk ++ [q]) (-1)) HMore.out (fun _ _ => rfl))
            have hk2 := (HFar.out _ HAt.out).2
            have hroot : fk ++ [q] ≠ [] := by simp
            refine ⟨⟨k + 1, updF nd (fk ++ [q]) (wr.heap.size + 1, wr.heap.size), updF en (fk ++ [q]) (-1), N + 1, by simp, by omega, by rw [HTk1.out, updF_same], HFn, Lib.hid (fun g h0 h => ?_), Lib.hid (HU.out.trans HO5.out (fun k hk => Or.inr (by rw [hk]; exact hk2))), Lib.hid (rdS_map HR4.out HF.out HAt.out HO5.out), Lib.hid ⟨by rw [updF_other _ _ hroot.symm]; exact HQ.out.1, by have := HQ.out.2; omega⟩, Lib.hid (far_new HFar.out HU.out.size (fun g hg => (HMore.out g).2 hg))⟩, by simp [intOf]; omega⟩
            · by_cases e : g = fk ++ [q]
              · rw [e, updF_same, HFr.out HCx.out]
              · rw [updF_other _ _ e]
                exact HEn.out g h0 (((HMore.out g).2 h).elim id (fun e2 => absurd e2 e))
        · have f1 : decide ((k : Int) < (p.length : Int)) = false := decide_eq_false (by omega)
          have f1' : decide (k < p.length) = false := decide_eq_false ck
          obtain rfl : k = p.length := by omega
          have HX := Lib.hid (fun g => show Mid P p p.length g ↔ Ex ((pathsL l).take (i + 1)) g by rw [HTk.out, ex_snoc]; unfold Mid; rw [List.take_length])
          have HSn := Lib.hid (fun g => show entN ((pathsL l).take (i + 1)) g = if p = g then (i : Int) else entN P g by rw [HTk.out, entN_snoc, HPl.out])
          have HAt := Lib.hid (show Mid P p p.length p from Or.inr (by rw [List.take_length]; exact List.prefix_refl _))
          rw [List.take_length]
          by_cases p0 : p = []
          · have hg6 : (nd p).1 = rt := by rw [p0]; exact HQ.out.1
            rw [hg6]
            have HP0 := Lib.hid p0
            have hcmp := neq_same wr ⟨rt, 0, none⟩
            clear p0 hg6
            go_wp2_with fail
            refine ⟨⟨i + 1, nd, en, N, by simp, by omega, Lib.hid (HF.out.congr HX.out (fun _ _ => rfl)), Lib.hid (fun g h0 h => ?_), HU, Lib.hid ⟨HQ.out.1, ?_⟩, Lib.hid (fun g h => HFar.out g ((HX.out g).2 h))⟩, by simp [intOf]; omega⟩
            · rw [HSn.out, if_neg (fun e => h0 (by rw [← e]; exact HP0.out))]
              exact HEn.out g h0 ((HX.out g).2 h)
            · have := HQ.out.2
              omega
          · have hne : (nd p).1 ≠ rt := fun e => p0 (HF.out.inj p [] HAt.out (Or.inl (Or.inl rfl)) (Or.inl (e.trans HQ.out.1.symm)))
            have k1 : wr.cell? ⟨(nd p).1, 0, none⟩ = some (.int .i64 (en p)) := Joins.cell_of_block (HF.out.node _ HAt.out) 0
            have k2 : wr.frozen? ⟨(nd p).1, 0, none⟩ = false := by simp [World.frozen?, HF.out.node _ HAt.out]
            have hcmp : (binOp .neq 49 (.pointer (some ⟨(nd p).1, 0, none⟩)) (.pointer (some ⟨rt, 0, none⟩))).run Tryd.prog wr = .ok (.bool true) wr := by
              have h2 := HF.out.node _ HF.out.root
              rw [HQ.out.1] at h2
              exact neq_other wr (fun e => hne (congrArg Addr.block e)) (HF.out.node _ HAt.out) h2
            have HFs := Lib.hid (forest_set HF.out HAt.out (i : Int))
            obtain ⟨g6, hg6⟩ : ∃ g6, (nd p).1 = g6 := ⟨_, rfl⟩
            have hfar := (HFar.out p HAt.out).1
            rw [hg6] at hne k1 k2 HFs hfar hcmp ⊢
            have HFr := Lib.hid hfar
            have HP0 := Lib.hid p0
            clear p0 hg6 hfar
            go_wp2_with fail
            refine ⟨⟨i + 1, nd, updF en p (i : Int), N, by simp, by omega, Lib.hid (HFs.out.congr HX.out (fun _ _ => rfl)), Lib.hid (fun g h0 h => ?_), Lib.hid (HU.out.setCell (Or.inr HFr.out) _), Lib.hid ⟨HQ.out.1, ?_⟩, Lib.hid (fun g h => HFar.out g ((HX.out g).2 h))⟩, by simp [intOf]; omega⟩
            · rw [HSn.out]
              by_cases e : p = g
              · rw [if_pos e, ← e, updF_same]
              · rw [if_neg e, updF_other _ _ (fun e2 => e e2.symm)]
                exact HEn.out g h0 ((HX.out g).2 h)
            · have := HQ.out.2
              omega
    · have e1 : decide ((i : Int) < (n : Int)) = false := decide_eq_false (by omega)
      have e1' : decide (i < n) = false := decide_eq_false ci
      obtain rfl : i = n := by omega
      have hall : (pathsL l).take i = pathsL l := List.take_of_length_le (by unfold pathsL; rw [List.length_map, HN.out]; exact Nat.le_refl _)
      rw [hall] at HF HEn
      have hT := told_any (fun _ => Iff.rfl) HEn.out (by unfold pathsL; rw [List.length_map, HN.out]; exact b1) 6000 wr [] HF.out HF.out.root (fun q hq => by
        unfold pathsL at hq
        obtain ⟨E, hE, rfl⟩ := List.mem_map.1 hq
        have h1 := HE.out E hE
        have h2 := splitL_le E.path
        rw [List.length_nil]; omega)
      rw [HQ.out.1] at hT
      have HT := Lib.hid hT
      clear hT hall HFar HEn
      go_wp2_with (go_at_call 28; refine HT.out.mono ?_; rintro x w4 ⟨v4, rfl, ht4, ho4⟩; have HPost := Lib.hid (show ToldPost (pathsL l) 6001 [] w (.returned v4) w4 from ⟨v4, rfl, ht4.imp (fun b hb _ => Nat.le_trans HU.out.size hb), HU.out.trans' ho4⟩); clear ht4 ho4)
      go_ret
      exact HPost.out
end Go.Proofs.YtihcdecdkpbpmaaDoor.Walks
