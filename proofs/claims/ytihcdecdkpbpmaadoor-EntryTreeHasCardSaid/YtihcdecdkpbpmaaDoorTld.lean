/- Contract of (*node).told on any made tree. -/
import Derived.Test.YtihcdecdkpbpmaaDoorFor
import Derived.Test.YtihcdecdkpbpmaaDoorSrt2
import Derived.Deep.RegionHeld3
namespace Go.Proofs.YtihcdecdkpbpmaaDoor.Walks
open Go Go.RowKit Go.Maps Go.WideMaps Go.Proofs.YtihcdecdkpbpmaaDoor.Aid Go.Proofs.YtihcdecdkpbpmaaDoor.Pth Go.Proofs.YtihcdecdkpbpmaaDoor.Own Go.Proofs.YtihcdecdkpbpmaaDoorW.PrintWords

/-- Which fronts there are: the beginnings of the paths. -/
def Ex (P : List (List Str)) (g : List Str) : Prop := g = [] ∨ ∃ p ∈ P, g <+: p
theorem ex_kid {P : List (List Str)} {f : List Str} {n : Str} : Ex P (f ++ [n]) ↔ n ∈ kidN P f := by
  rw [mem_kidN]
  constructor
  · rintro (h | h)
    · simp at h
    · exact h
  · exact Or.inr
def ToldPost (P : List (List Str)) (d : Nat) (f : List Str) (w : World) (x : Ending) (w' : World) : Prop :=
  ∃ v, x = .returned v ∧ TreeIn (fun b => w.heap.size ≤ b) P d f w' v ∧ Only (fun _ => False) w w'
theorem lvM (a : Addr) (w : World) : (loadVar 50 a).run Tryd.prog w = (load a).run Tryd.prog w := by
  go_simp
/-- Which names are done. -/
structure Done (kn : List Str) (ns : List Nd) (left : Lit → Bool) (D : DataW Unit) : Prop where
  nodup : (ns.map (·.name)).Nodup
  mem : ∀ n, n ∈ kn ↔ n ∈ ns.map (·.name) ∨ left (.string n) = true
  apart : ∀ n ∈ ns.map (·.name), left (.string n) = false
  has : ∀ kl, left kl = true → Maps.has D kl = true
/-- What the nodes that are done read as. -/
def Good (P : List (List Str)) (d : Nat) (f : List Str) (base : Nat) (v : Value) (ns : List Nd) (u : World) : Prop :=
  ∀ M ∈ ns, M.ent = entN P (f ++ [M.name]) ∧ TreeIn (fun b => base ≤ b ∧ some b ≠ v.ownBlock) P d (f ++ [M.name]) u M.kids
theorem done_start {kn : List Str} {nd : List Str → Nat} {f : List Str} {ns : List Str} (h : ∀ n, n ∈ ns ↔ n ∈ kn) : Done kn [] (Maps.has (kmapN nd f ns)) (kmapN nd f ns) :=
  ⟨List.Pairwise.nil, fun n => by
    rw [← h]
    constructor
    · intro hn; exact Or.inr ((kmapN_has _ _ _ _).2 ⟨n, hn, rfl⟩)
    · rintro (hn | hn)
      · cases hn
      · obtain ⟨m, hm, e⟩ := (kmapN_has _ _ _ _).1 hn
        rw [Lit.string.inj e]; exact hm, fun n h => (by cases h), fun _ h => h⟩
theorem sameKey_str (a b : Str) : (Lit.string a).sameKey (.string b) = decide (a = b) := by
  unfold Lit.sameKey
  by_cases h : a = b
  · simp [h]
  · simp [h]
theorem done_more {kn : List Str} {ns : List Nd} {left : Lit → Bool} {D : DataW Unit} (h : Done kn ns left D) {N : Nd} (hl : left (.string N.name) = true) : Done kn (ns ++ [N]) (fun z => left z && !z.sameKey (.string N.name)) D := by
  have hna : N.name ∉ ns.map (·.name) := fun hm => by rw [h.apart _ hm] at hl; cases hl
  refine ⟨?_, fun n => ?_, fun n hn => ?_, fun kl hk => h.has kl (by simp only [Bool.and_eq_true] at hk; exact hk.1)⟩
  · rw [List.map_append, List.nodup_append]
    refine ⟨h.nodup, by simp, fun a ha b hb e => ?_⟩
    rw [List.map_cons, List.map_nil, List.mem_singleton] at hb
    rw [e, hb] at ha; exact hna ha
  · rw [h.mem, List.map_append, List.mem_append, sameKey_str]
    constructor
    · rintro (h1 | h1)
      · exact Or.inl (Or.inl h1)
      · by_cases e : n = N.name
        · exact Or.inl (Or.inr (by simp [e]))
        · exact Or.inr (by simp [h1, e])
    · rintro ((h1 | h1) | h1)
      · exact Or.inl h1
      · rw [List.map_cons, List.map_nil, List.mem_singleton] at h1
        rw [h1]; exact Or.inr hl
      · simp only [Bool.and_eq_true] at h1
        exact Or.inr h1.1
  · rw [List.map_append, List.mem_append] at hn
    rw [sameKey_str]
    rcases hn with hn | hn
    · rw [h.apart n hn]; rfl
    · rw [List.map_cons, List.map_nil, List.mem_singleton] at hn
      simp [hn]
theorem done_end {P : List (List Str)} {f : List Str} {kn : List Str} {ns ms : List Nd} {left : Lit → Bool} {D : DataW Unit} (h : Done kn ns left D) (hl : ∀ kl, left kl = false) (hk : ∀ n, n ∈ kn ↔ n ∈ kidN P f)
    (hp : ms.Perm ns) (hs : ms.Pairwise (fun a b => Op.bytesLess b.name a.name = false)) : ms.map (·.name) = kidN P f := by
  have hmem : ∀ n, n ∈ ms.map (·.name) ↔ n ∈ kidN P f := fun n => by
    rw [← hk, h.mem, hl, (hp.map (·.name)).mem_iff]; simp
  have hnd : (ms.map (·.name)).Nodup := (hp.map (·.name)).nodup_iff.2 h.nodup
  refine rising_unique ?_ (rising_kidN P f) hmem
  have h1 : (ms.map (·.name)).Pairwise (fun a b => Op.bytesLess b a = false) := List.pairwise_map.2 hs
  refine (List.Pairwise.and h1 hnd).imp ?_
  rintro a b ⟨h2, h3⟩
  cases h4 : Op.bytesLess a b with
  | true => rfl
  | false => exact absurd (bl_tri h4 h2) h3
theorem nodup_len : ∀ {l m : List Str}, l.Nodup → (∀ x ∈ l, x ∈ m) → l.length ≤ m.length
  | [], _, _, _ => Nat.zero_le _
  | x :: r, m, h, hs => by
    have h' := List.nodup_cons.1 h
    have hx := hs x List.mem_cons_self
    have := nodup_len (l := r) (m := m.erase x) h'.2 fun y hy => (List.mem_erase_of_ne (fun e => h'.1 (by rw [← e]; exact hy))).2 (hs y (List.mem_cons_of_mem _ hy))
    rw [List.length_erase_of_mem hx] at this
    have h0 : 0 < m.length := List.length_pos_of_mem hx
    rw [List.length_cons]; omega
theorem done_len {P : List (List Str)} {f kn : List Str} {ns : List Nd} {left : Lit → Bool} {D : DataW Unit} (h : Done kn ns left D) (hk : ∀ n, n ∈ kn ↔ n ∈ kidN P f) : ns.length ≤ P.length := by
  have h1 := nodup_len (l := ns.map (·.name)) (m := kidN P f) h.nodup fun x hx => (hk x).1 ((h.mem x).2 (Or.inl hx))
  rw [List.length_map] at h1
  exact Nat.le_trans h1 (kidN_len P f)
theorem treeIn_shape {U : Nat → Prop} {P : List (List Str)} {d : Nat} {f : List Str} {w : World} {v : Value} (h : TreeIn U P d f w v) : ∃ A n c, v = .slice A n c := by
  cases d with
  | zero => exact h.elim
  | succ d =>
    obtain ⟨ns, ⟨A, c, e, _⟩, _⟩ := h
    exact ⟨A, _, c, e⟩
/-- The end: sorted, the nodes are the tree. -/
theorem told_end {P : List (List Str)} {d : Nat} {f : List Str} {base r : Nat} {v : Value} {ns ms : List Nd} {w wr w' : World} {kn : List Str} {left : Lit → Bool} {D : DataW Unit}
    (hr : w.heap.size = r) (hb : base = r + 1) (hU : Only (fun _ => False) w wr) (hO : OwnN base wr v ns) (hG : Good P d f base v ns wr) (hD : Done kn ns left D) (hl : ∀ kl, left kl = false) (hk : ∀ n, n ∈ kn ↔ n ∈ kidN P f)
    (hp : ms.Perm ns) (hs : ms.Pairwise (fun a b => Op.bytesLess b.name a.name = false)) (hO2 : OwnN base w' v ms) (ho : Only (fun k => some k = v.ownBlock) wr w') : ToldPost P (d + 1) f w (.returned v) w' := by
  refine ⟨v, rfl, ⟨ms, (ownN_rd hO2).imp fun b e _ => ?_, done_end hD hl hk hp hs, fun M hM => ?_⟩, hU.trans ho fun k hk => Or.inr ?_⟩
  · have := (ownN_lt hO2 e).1
    omega
  · obtain ⟨h1, h2⟩ := hG M (hp.mem_iff.1 hM)
    exact ⟨h1, (h2.only ho (fun b hb _ => hb.2)).imp fun b hb _ => by have := hb.1; omega⟩
  · have := (ownN_lt hO hk).1
    omega
/-- A round: one node more. -/
theorem told_more {P : List (List Str)} {d : Nat} {f : List Str} {base r b : Nat} {v v' : Value} {ns : List Nd} {M : Nd} {w wr V W5 W6 w' : World} {kn : List Str} {left : Lit → Bool} {D : DataW Unit} {N cnt : Nat}
    (hr : w.heap.size = r) (hb : base = r + 1) (hbw : b < r) (hU : Only (fun _ => False) w wr) (hO : OwnN base wr v ns) (hG : Good P d f base v ns wr) (hD : Done kn ns left D)
    (hl : left (.string M.name) = true) (hgr : wr.grownBy V (some r)) (hrg : V.ranges Tryd.prog 9 nodeElem b r N D (fun z => left z && !z.sameKey (.string M.name)) cnt)
    (h5 : Only (fun _ => False) V W5) (ht : TreeIn (fun k => V.heap.size ≤ k) P d (f ++ [M.name]) W5 M.kids) (he : M.ent = entN P (f ++ [M.name])) (h6 : Only (fun _ => False) W5 W6)
    (h7 : Only (fun k => some k = v.ownBlock) W6 w') (hat : v'.ownBlock = v.ownBlock ∨ v'.ownBlock = some W6.heap.size) (hbr : wr.heap.size ≤ V.heap.size) (hbs : base ≤ wr.heap.size) :
    w'.ranges Tryd.prog 9 nodeElem b r N D (fun z => left z && !z.sameKey (.string M.name)) cnt ∧ Only (fun _ => False) w w' ∧ Good P d f base v' (ns ++ [M]) w' ∧ Done kn (ns ++ [M]) (fun z => left z && !z.sameKey (.string M.name)) D := by
  have hV : Only (fun k => k = r) wr V := ⟨hgr.os, hgr.tape, hgr.output, hgr.size, fun k hk hn => hgr.block k hk (fun e => hn (Option.some.inj e))⟩
  have h56 := h5.trans' h6
  have h57 : Only (fun k => some k = v.ownBlock) V w' := (h56.mono (S' := fun k => some k = v.ownBlock) (fun _ _ h => h.elim)).trans' h7
  have hown : ∀ k, some k = v.ownBlock → base ≤ k ∧ k < wr.heap.size := fun k hk => ownN_lt hO hk
  refine ⟨hrg.kept (row := v.ownBlock) ⟨h57.os, h57.tape, h57.output, h57.size, fun k hk hn => h57.block k hk hn⟩ (fun e => by have := (hown _ e).1; omega) (fun e => by have := (hown _ e).1; omega), ?_, ?_, done_more hD hl⟩
  · exact (hU.trans hV fun k hk => Or.inr (by omega)).trans h57 fun k hk => Or.inr (by have := (hown _ hk).1; omega)
  · have hne : ∀ k, k < W6.heap.size → some k ≠ v.ownBlock → some k ≠ v'.ownBlock := fun k hk hn e => by
      rcases hat with h | h
      · exact hn (e.trans h)
      · have := Option.some.inj (e.trans h); omega
    intro M' hM'
    rcases List.mem_append.1 hM' with hm | hm
    · obtain ⟨g1, g2⟩ := hG M' hm
      refine ⟨g1, ?_⟩
      have t1 := g2.only hV (fun k hk _ => by have := hk.1; omega)
      have t2 := t1.only h56 (fun _ _ _ => id)
      have t3 := t2.imp (U' := fun k => (base ≤ k ∧ some k ≠ v.ownBlock) ∧ some k ≠ v'.ownBlock) fun k hk hlt => ⟨hk, hne k hlt hk.2⟩
      exact (t3.only h7 (fun k hk _ => hk.1.2)).imp fun k hk _ => ⟨hk.1.1, hk.2⟩
    · rw [List.mem_singleton.1 hm]
      refine ⟨he, ?_⟩
      have t2 := ht.only h6 (fun _ _ _ => id)
      have t3 := t2.imp (U' := fun k => (base ≤ k ∧ some k ≠ v.ownBlock) ∧ some k ≠ v'.ownBlock) fun k hk hlt => by
        have h8 : some k ≠ v.ownBlock := fun e => by have := (hown _ e).2; omega
        exact ⟨⟨by omega, h8⟩, hne k hlt h8⟩
      exact (t3.only h7 (fun k hk _ => hk.1.2)).imp fun k hk _ => ⟨hk.1.1, hk.2⟩
attribute [-go_sem] loadVar
attribute [local go_sem] lv9 lv3 lvM
set_option maxRecDepth 100000 in
set_option maxHeartbeats 4000000 in
theorem told_step {w : World} {nd : List Str → Nat × Nat} {X : List Str → Prop} {en : List Str → Int} {N : Nat} {P : List (List Str)} {f : List Str} {d : Nat} (hF : Forest w nd X en N) (hf : X f) (hX : ∀ g, X g ↔ Ex P g) (hen : ∀ g, g ≠ [] → X g → en g = entN P g) (hP : P.length ≤ 12)
    (hK : ∀ n u, X (f ++ [n]) → Forest u nd X en N → Calls Tryd.prog 28 #[.pointer (some ⟨(nd (f ++ [n])).1, 0, none⟩)] u (ToldPost P d (f ++ [n]) u)) :
    Calls Tryd.prog 28 #[.pointer (some ⟨(nd f).1, 0, none⟩)] w (ToldPost P (d + 1) f w) := by
  obtain ⟨kn, hkn, hkm, hmap⟩ := hF.kids f hf
  have hkn2 : ∀ n, n ∈ kn ↔ n ∈ kidN P f := fun n => (hkm n).trans ((hX _).trans ex_kid)
  have c1 : w.cell? ⟨(nd f).1, 1, none⟩ = some (.map (some (nd f).2)) := Joins.cell_of_block (hF.node f hf) 1
  have HK := Lib.hid hK
  have HF := Lib.hid hF
  have HKm := Lib.hid hkm
  have HKn := Lib.hid hkn2
  have HX := Lib.hid hX
  have HEn := Lib.hid hen
  have HP := Lib.hid hP
  have HFf := Lib.hid hf
  have HBw := Lib.hid (hF.lt2 hf)
  have hnb : ∀ n, n ∈ kn → Hid (X (f ++ [n])) := fun n hn => Lib.hid ((hkm n).1 hn)
  have HNb := Lib.hid hnb
  obtain ⟨w1, hrun, hr1, hg1, hs1⟩ := hmap.range keyedS Tryd.underlying50
  obtain ⟨g, hg⟩ : ∃ g, (nd f).1 = g := ⟨_, rfl⟩
  obtain ⟨b, hb⟩ : ∃ b, (nd f).2 = b := ⟨_, rfl⟩
  rw [hb] at c1 hrun hr1 HBw
  rw [hg] at c1 ⊢
  clear hnb hmap hF hK hkm hkn2 hX hen hP hkn hf hg hb
  go_enter Tryd.func28, Tryd.ntmps28
  go_wp2_with fail
  have HU := Lib.hid (Only.of_below (show Below w.heap.size w w1 from ⟨hg1.os, hg1.tape, hg1.output, hg1.size, fun k hk => hg1.block k hk (by simp)⟩) (fun _ => False))
  have HR := Lib.hid hr1
  obtain ⟨D, hD⟩ : ∃ D, kmapN (fun g => (nd g).fst) f kn = D := ⟨_, rfl⟩
  have HDat := Lib.hid (fun n (hn : n ∈ kn) z => show D.atKey (.string n) z = .lit (.int .i64 ((nd (f ++ [n])).1 : Int)) by rw [← hD, kmapN_at, if_pos hn])
  have HDone := Lib.hid (show Done kn [] (Maps.has D) D by rw [← hD]; exact done_start (fun _ => Iff.rfl))
  have HDstr := Lib.hid (fun kl (h : Maps.has D kl = true) => show ∃ n ∈ kn, kl = .string n by rw [← hD] at h; exact (kmapN_has _ _ _ _).1 h)
  rw [hD] at HR
  obtain ⟨r, hr⟩ : ∃ r, w.heap.size = r := ⟨_, rfl⟩
  obtain ⟨base, hbase⟩ : ∃ base, w1.heap.size = base := ⟨_, rfl⟩
  have HB := Lib.hid (show base = r + 1 by rw [← hbase, ← hr]; exact hs1)
  rw [hr] at HR HBw ⊢
  have HWr := Lib.hid hr
  have HWb := Lib.hid hbase
  clear hr1 hg1 hs1 hrun c1 hD hr hbase
  go_loopw [3] (fun v3 u => ∃ (ns : List Nd) (left : Lit → Bool) (cnt : Nat), Hid (OwnN base u v3 ns) ∧ Hid (u.ranges Tryd.prog 9 nodeElem b r N D left cnt) ∧ Hid (Only (fun _ => False) w u ∧ base ≤ u.heap.size) ∧ Hid (Good P d f base v3 ns u) ∧ Hid (Done kn ns left D)) (fun _ u => u.rangeLeft b r)
  case atStart => exact ⟨[], Maps.has D, Maps.size D, Lib.hid (ownN_nil _ _), HR, Lib.hid ⟨HU.out, Nat.le_of_eq HWb.out.symm⟩, Lib.hid (fun M h => by cases h), HDone⟩
  case round =>
    clear HR HU HDone HWb
    obtain ⟨ns, left, cnt, HO, HR, HU, HG, HDn⟩ := hrel
    rcases HR.out.next keyedS 0 with ⟨h0, hl, hrun⟩ | ⟨key, v, kl, y, V, cnt', hkey, hlk, hv, hat, hrun, hrg, hlt, hgr, hsz, hen⟩
    · have HS := Lib.hid (sort_any HO.out (Nat.le_trans (done_len HDn.out HKn.out) HP.out))
      have HL := Lib.hid hl
      clear h0 hl HR
      go_wp2_with (go_at_call 42; refine HS.out.mono ?_; rintro x w4 ⟨rfl, ms, hp, hso, hO4, ho4⟩; have HPost := Lib.hid (told_end HWr.out HB.out HU.out.1 HO.out HG.out HDn.out HL.out HKn.out hp hso hO4 ho4); clear hp hso hO4 ho4)
      go_ret
      exact HPost.out
    · obtain ⟨S, rfl, rfl, _⟩ := string_of_keyOf Tryd.underlying9 hkey
      obtain ⟨n, hn, hkl⟩ := HDstr.out _ (HDn.out.has _ hlk)
      obtain rfl : S = B n := by rw [← Lit.string.inj hkl, data_B]
      rw [B_data] at hlk hat hrg
      obtain ⟨c, rfl⟩ := nodeElem_inv hv
      have hc : c = some ⟨(nd (f ++ [n])).1, 0, none⟩ := by
        obtain ⟨y1, y2⟩ := y
        have h3 := (hat (.lit (.int .i64 0))).symm.trans (HDat.out n hn _)
        dsimp only at h3
        rw [h3] at hv
        exact nodeElem_at hv
      subst hc
      have hxn : X (f ++ [n]) := (HKm.out n).1 hn
      have hV : Only (fun k => k = r) wr V := ⟨hgr.os, hgr.tape, hgr.output, hgr.size, fun k hk hn => hgr.block k hk (fun e => hn (Option.some.inj e))⟩
      have hown : ∀ k, some k = u3.ownBlock → base ≤ k := fun k hk => (ownN_lt HO.out hk).1
      have hwV : Only (fun k => r ≤ k) w V := (HU.out.1.trans (S' := fun k => k = r) hV (fun k hk => Or.inr (by rw [hk]; exact Nat.le_of_eq HWr.out))).mono (fun _ _ h => h.elim)
      have hFu : ∀ u, Only (fun k => some k = u3.ownBlock) V u → Forest u nd X en N := fun u h => HF.out.only (hwV.trans h (fun k hk => Or.inl (by have := hown k hk; have := HB.out; omega))) (fun k hk => by have := HWr.out; omega)
      have HKc := Lib.hid (fun u (h : Only (fun k => some k = u3.ownBlock) V u) => HK.out n u hxn (hFu u h))
      have hc1 : ∀ u, Only (fun k => some k = u3.ownBlock) V u → u.cell? ⟨(nd (f ++ [n])).1, 0, none⟩ = some (.int .i64 (en (f ++ [n]))) := fun u h => Joins.cell_of_block ((hFu u h).node _ hxn) 0
      have HEe := Lib.hid (HEn.out (f ++ [n]) (by simp) hxn)
      have HOV := Lib.hid (fun u (h : Only (fun _ => False) V u) => show OwnN base u u3 ns from ownN_only (ownN_only HO.out hV (fun k hk e => by have := hown k hk; have := HB.out; omega)) h (fun _ _ => id))
      have HLt := Lib.hid hlt
      have HRg := Lib.hid hrg
      have HLk := Lib.hid hlk
      have HGr := Lib.hid hgr
      have HSz := Lib.hid hsz
      have HLen := Lib.hid (Nat.le_trans (done_len HDn.out HKn.out) HP.out)
      obtain ⟨g2, hg2⟩ : ∃ g2, (nd (f ++ [n])).1 = g2 := ⟨_, rfl⟩
      rw [hg2] at HKc hc1 hrun hen
      obtain ⟨e, he⟩ : ∃ e, en (f ++ [n]) = e := ⟨_, rfl⟩
      rw [he] at hc1 HEe
      clear hkey hkl hv hat hn hxn hV hown hwV hFu hg2 he hlt hrg hlk hgr hsz
      go_upto_region 5 with (fail)
      go_region_held3 (fun u => Only (fun k => some k = u3.ownBlock) V u) (first | exact (Only.refl _ _).drew | assumption | (refine Only.alloc ?_ _; assumption)) (first
        | (fail)
        | (go_at_call 28; refine (HKc.out _ (by assumption)).mono ?_; rintro x w5 ⟨v5, rfl, ht5, ho5⟩; obtain ⟨A5, m5, c5, rfl⟩ := treeIn_shape ht5; have ho5' : Only (fun k => some k = u3.ownBlock) V w5 := Only.trans' (show Only (fun k => some k = u3.ownBlock) V _ by assumption) (ho5.mono (fun _ _ h => h.elim)))
        | (rw [if_pos (by rfl)]
           have h56 : Only (fun _ => False) V (w5.alloc (.cells (nrow ⟨n, e, A5, m5, c5⟩) 48)) := ((Only.refl _ V).drew.trans' ho5).alloc _
           refine appN_wp _ _ rfl u3 _ ns [⟨n, e, A5, m5, c5⟩] rfl rfl (HOV.out _ h56) _ (rdN_one (alloc_new w5 _)) (fun h => (by cases h)) (Nat.le_trans HU.out.2 (Nat.le_trans (Nat.le_of_eq HSz.out.symm) h56.size)) (by have := HLen.out; rw [List.length_singleton]; omega) ?_
           intro v7 w7 hO7 ho7 hat7
           have ho7' : Only (fun k => some k = u3.ownBlock) V w7 := (h56.mono (fun _ _ h => h.elim)).trans' ho7))
      obtain ⟨hq1, hq2, hq3, hq4⟩ := told_more (M := ⟨n, e, A5, m5, c5⟩) (V := V) (W5 := w5) HWr.out HB.out HBw.out HU.out.1 HO.out HG.out HDn.out HLk.out HGr.out HRg.out ((Only.refl _ V).drew.trans' ho5) ht5 HEe.out ((Only.refl _ w5).alloc _) ho7 hat7 (Nat.le_of_eq HSz.out.symm) HU.out.2
      have HQ := Lib.hid (And.intro hO7 (And.intro hq3 hq4))
      have HQ2 := Lib.hid (And.intro hq2 (Nat.le_trans HU.out.2 (Nat.le_trans (Nat.le_of_eq HSz.out.symm) ho7'.size)))
      have HQr := Lib.hid hq1
      have HMe := Lib.hid (show w7.rangeLeft b r < wr.rangeLeft b r by rw [hq1.left_eq, HR.out.left_eq]; exact HLt.out)
      clear hq1 hq2 hq3 hq4 hO7 ho7 ho7' hat7 h56 ho5' ht5 ho5
      go_wp2_with fail
      exact ⟨⟨_, _, cnt', Lib.hid HQ.out.1, HQr, HQ2, Lib.hid HQ.out.2.1, Lib.hid HQ.out.2.2⟩, HMe.out⟩
theorem told_any {nd : List Str → Nat × Nat} {X : List Str → Prop} {en : List Str → Int} {N : Nat} {P : List (List Str)} (hX : ∀ g, X g ↔ Ex P g) (hen : ∀ g, g ≠ [] → X g → en g = entN P g) (hP : P.length ≤ 12) :
    ∀ (d : Nat) (w : World) (f : List Str), Forest w nd X en N → X f → (∀ p ∈ P, p.length < f.length + (d + 1)) → Calls Tryd.prog 28 #[.pointer (some ⟨(nd f).1, 0, none⟩)] w (ToldPost P (d + 1) f w)
  | 0, w, f, hF, hf, hd => told_step hF hf hX hen hP fun n u hn _ => by
    obtain ⟨p, hp, h2⟩ := mem_kidN.1 (ex_kid.1 ((hX _).1 hn))
    have h1 := hd p hp
    have := h2.length_le
    rw [List.length_append, List.length_singleton] at this
    omega
  | d + 1, w, f, hF, hf, hd => told_step hF hf hX hen hP fun n u hn hu => told_any hX hen hP d u (f ++ [n]) hu hn fun p hp => by
    have := hd p hp
    rw [List.length_append, List.length_singleton]
    omega
end Go.Proofs.YtihcdecdkpbpmaaDoor.Walks
