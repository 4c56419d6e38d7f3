/- Contract of entry.List. -/
import Derived.Test.YtpghionmmlidnaaGreatDoorMay
import Derived.Maps.Own
import Derived.Maps.OwnOps
import Derived.Maps.Views
namespace Go.Proofs.YtpghionmmlidnaaGreatDoor.Walks
open Go Go.RowKit Go.Maps Go.WideMaps Go.Proofs.YtpghionmmlidnaaGreatDoor.Aid Go.Proofs.YtpghionmmlidnaaGreatDoor.Pth Go.Proofs.YtpghionmmlidnaaGreatDoor.Own Go.Proofs.YtpghionmmlidnaaGreatDoorW.PrintWords

theorem keyed9 : Keyed Tryz.prog 9 := string_keyed Tryz.underlying9
theorem zero3 (w : World) : (zeroValue 3).run Tryz.prog w = .ok (.int .i64 0) w := by kernel_rfl
theorem key_B {p : Str} (h : p.length ≤ 500000) : keyOf Tryz.prog 9 (.string (B p)) = some (.string p) := by
  have := keyOf_string_mk (s := B p) Tryz.underlying9 (by rw [B_size]; unfold maxLen; omega)
  rwa [B_data] at this
def lastKind (l : List Ent) (t : Str) : Int := l.foldl (fun k e => if e.path = t then e.kind else k) 0
def kmap (l : List Ent) : DataW Unit := l.foldl (fun m e => m.put (.string e.path) (.lit (.int .i64 e.kind))) (.map [])
theorem kmap_from (l : List Ent) (t : Str) : ∀ (m : DataW Unit) (k : Int), Maps.IsMap m → m.atKey (.string t) (.lit (.int .i64 0)) = .lit (.int .i64 k) →
    (l.foldl (fun m e => m.put (.string e.path) (.lit (.int .i64 e.kind))) m).atKey (.string t) (.lit (.int .i64 0)) = .lit (.int .i64 (l.foldl (fun k e => if e.path = t then e.kind else k) k)) := by
  induction l with
  | nil => intro m k _ h; exact h
  | cons e r ih =>
    intro m k hm h
    rw [List.foldl_cons, List.foldl_cons]
    refine ih _ _ (hm.put _ _) ?_
    by_cases c : e.path = t
    · rw [if_pos c, c, Maps.atKey_put_same (k := .string t) hm trivial]
    · rw [if_neg c, Maps.atKey_put_other (k := .string e.path) (k' := .string t) (fun h2 => c ((Lit.string.inj h2).symm)), h]
theorem kmap_at (l : List Ent) (t : Str) : (kmap l).atKey (.string t) (.lit (.int .i64 0)) = .lit (.int .i64 (lastKind l t)) := kmap_from l t _ _ Maps.isMap_empty rfl
theorem kmap_snoc (l : List Ent) (e : Ent) : kmap (l ++ [e]) = (kmap l).put (.string e.path) (.lit (.int .i64 e.kind)) := by unfold kmap; rw [List.foldl_append]; rfl
theorem map_only {w u : World} {S : Nat → Prop} {b n : Nat} {D : DataW Unit} (h : w.ownsMap Tryz.prog 9 (plainElem Tryz.prog 3) b n D) (ho : Only S w u) (hb : ¬ S b) : u.ownsMap Tryz.prog 9 (plainElem Tryz.prog 3) b n D := by
  obtain ⟨es, clock, h1, h2⟩ := h
  exact ⟨es, clock, ho.keeps h1 hb, h2⟩
theorem only_grown {w u : World} {b : Nat} (h : w.grownBy u (some b)) : Only (fun k => k = b) w u :=
  ⟨h.os, h.tape, h.output, h.size, fun k hk hn => h.block k hk (fun e => hn (by injection e))⟩
def e0 : Ent := ⟨[], 0, 0, 0, 0, 0, [], []⟩
def listAt (pre : List Ent) (E : Ent) : Bool := mayL E && !(decide (E.kind = 4) && decide (lastKind pre E.target ≠ 1))
def listL (l : List Ent) : Int := match (List.range l.length).find? (fun i => !(listAt (l.take i) (l.getD i e0))) with
  | none => -1
  | some i => (i : Int)
theorem list_stop {l : List Ent} {i : Nat} (hi : i < l.length) (hk : listAt (l.take i) (l.getD i e0) = false) (hn : ∀ j, j < i → listAt (l.take j) (l.getD j e0) = true) : listL l = (i : Int) := by
  have e : (List.range l.length).find? (fun i => !(listAt (l.take i) (l.getD i e0))) = some i := List.find?_range_eq_some.2 ⟨by rw [hk]; rfl, List.mem_range.2 hi, fun j hj => by rw [hn j hj]; rfl⟩
  unfold listL
  rw [e]
theorem list_all {l : List Ent} (hn : ∀ j, j < l.length → listAt (l.take j) (l.getD j e0) = true) : listL l = -1 := by
  have e : (List.range l.length).find? (fun i => !(listAt (l.take i) (l.getD i e0))) = none := List.find?_eq_none.2 (fun j hj => by rw [hn j (List.mem_range.1 hj)]; exact Bool.false_ne_true)
  unfold listL
  rw [e]
/-- Entries that came in: sizes, and kinds within an int's bounds. -/
def EsOk (l : List Ent) : Prop := ∀ E ∈ l, EOk E ∧ -9223372036854775808 ≤ E.kind ∧ E.kind ≤ 9223372036854775807
theorem load_at {w : World} {a1 : Addr} {E : Ent} {A : Option Addr} {c : Nat} (h : ∀ j v, (erow E A c)[j]? = some v → w.cell? (a1.add j) = some v) : (loadVar 47 a1).run Tryz.prog w = .ok (eval E A c) w := by
  obtain ⟨fs, hu⟩ := rowE
  have hl : (loadCells a1 8).run Tryz.prog w = .ok (erow E A c) w := run_loadCells_list (P := Tryz.prog) w a1 (erow E A c).toList (fun j v hv => h j v (by simpa using hv))
  have hi := infoE
  cases hq : Tryz.prog.info? 47 with
  | none => simp [hq] at hi
  | some i =>
    have hs : i.size = 8 := by simpa [hq] using hi
    have hagg : (isAgg 47).run Tryz.prog w = .ok true w := by
      unfold isAgg
      rw [Sem.run_bind, run_underlying hu w]
      simp
    simp [loadVar, Sem.run_bind, hagg, sizeOf, typeInfo, hq, hs, hl, eval]
theorem add_add (ad : Addr) (n j : Nat) : (ad.add n).add j = ad.add (n + j) := by
  unfold Addr.add
  by_cases h1 : n = 0
  · by_cases h2 : j = 0 <;> simp [h1, h2]
  · by_cases h2 : j = 0
    · simp [h1, h2]
    · simp [h1, h2]; omega
section
variable {ops : Array Oper} {rest : List Oper} {o : Oper} {a : Act} {Q : Exit → Act → World → Prop}
theorem load_entA {W : World} (hgd : o.guard = none) {a1 : Addr} {E : Ent} {A : Option Addr} {c : Nat} (x : Operand) (ho : o.op = .load 47 x) (hx : a.eval x = .pointer (some a1)) (hc : ∀ j v, (erow E A c)[j]? = some v → W.cell? (a1.add j) = some v) (h : wpList Tryz.prog ops Q rest (a.put o.dst (eval E A c)) W) : wpList Tryz.prog ops Q (o :: rest) a W := by
  refine wpList_plain hgd fun K2 hK => ?_
  unfold Oper.wp execOp
  simp only [ho, hx, Instr.loadAt, Instr.sureAddr, Sem.run_bind, Sem.run_pure, Result.andThen_ok, load_at hc]
  exact hK _ _ h
end
set_option maxRecDepth 100000 in
set_option maxHeartbeats 4000000 in
theorem list_any {w : World} {A : Option Addr} {l : List Ent} {n c : Nat} {M : Nat → Option Addr × Nat} (hn : l.length = n) (hl : n ≤ 100000) (hR : RdE w A l M) (hE : EsOk l) (hm : MaxLen w) :
    Calls Tryz.prog 46 #[.slice A n c] w fun x w' => x = .returned (.int .i64 (listL l)) ∧ Only (fun _ => False) w w' := by
  have hmm := @run_makeMap Tryz.prog
  have HN := Lib.hid hn
  have HR := Lib.hid hR
  have HE := Lib.hid hE
  have HM := Lib.hid hm
  have b1 : n ≤ 100000 := hl
  clear hn hl hR hE hm
  go_enter Tryz.func46, Tryz.ntmps46
  go_wp2_with fail
  have HO1 := Lib.hid (show Only (fun _ => False) w (w.alloc (.map #[] 0)) from (Only.refl _ w).alloc _)
  have HMp := Lib.hid (show (w.alloc (.map #[] 0)).ownsMap Tryz.prog 9 (plainElem Tryz.prog 3) w.heap.size 0 (kmap (l.take 0)) from World.ownsMap_made _ _ _ _)
  obtain ⟨V, hV⟩ : ∃ V, w.alloc (.map #[] 0) = V := ⟨_, rfl⟩
  obtain ⟨gm, hgm⟩ : ∃ gm, w.heap.size = gm := ⟨_, rfl⟩
  rw [hV] at HO1 HMp ⊢
  rw [hgm] at HMp ⊢
  have HG := Lib.hid (show w.heap.size ≤ gm from Nat.le_of_eq hgm)
  clear hV hgm hmm
  go_loopw [9] (fun v9 u => ∃ i : Nat, v9 = .int .i64 (i : Int) ∧ i ≤ n ∧ Hid (u.ownsMap Tryz.prog 9 (plainElem Tryz.prog 3) gm i (kmap (l.take i))) ∧ Hid (Only (fun _ => False) w u) ∧ Hid (∀ j, j < i → listAt (l.take j) (l.getD j e0) = true)) (fun i _ => n - (intOf i).toNat)
  case atStart => exact ⟨0, rfl, by omega, HMp, HO1, Lib.hid (fun j h => absurd h (by omega))⟩
  case round =>
    clear HMp HO1
    clear V
    obtain ⟨i, rfl, hi, HMp, HU, HAll⟩ := hrel
    by_cases ci : i < n
    · have d1 : decide ((i : Int) < (n : Int)) = true := decide_eq_true (by omega)
      have d1' : decide (i < n) = true := decide_eq_true ci
      have d2 : (i : Int) < (n : Int) := by omega
      have hil : i < l.length := by rw [HN.out]; exact ci
      obtain ⟨E, hE⟩ : ∃ E, l.getD i e0 = E := ⟨_, rfl⟩
      have hE2 : l[i]? = some E := by
        rw [← hE, List.getD_eq_getElem?_getD, List.getElem?_eq_getElem hil]; rfl
      obtain ⟨hAt, ad, hA, hcell⟩ := (HR.out.only HU.out) i E hE2
      obtain ⟨hEo, hk0, hk1⟩ := HE.out E (List.mem_of_getElem? hE2)
      subst hA
      obtain ⟨B1, hB1⟩ : ∃ B1, (M i).1 = B1 := ⟨_, rfl⟩
      obtain ⟨c1, hc1⟩ : ∃ c1, (M i).2 = c1 := ⟨_, rfl⟩
      rw [hB1, hc1] at hAt hcell
      have HC := Lib.hid (show ∀ j v, (erow E B1 c1)[j]? = some v → wr.cell? ((ad.add (i * 8)).add j) = some v from fun j v h => by rw [add_add]; exact hcell j v h)
      have HEo := Lib.hid hEo
      have HK := Lib.hid (And.intro hk0 hk1)
      have HTk := Lib.hid (show l.take (i + 1) = l.take i ++ [E] from take_snoc hil hE)
      have HS := Lib.hid (fun (h : listAt (l.take i) E = true) (j : Nat) (hj : j < i + 1) => show listAt (l.take j) (l.getD j e0) = true from by
        by_cases e : j = i
        · rw [e, hE]; exact h
        · exact HAll.out j (by omega))
      have HBad := Lib.hid (fun (h : listAt (l.take i) E = false) => list_stop hil (by rw [hE]; exact h) HAll.out)
      clear hE hE2 hAt hcell hEo hk0 hk1 hB1 hc1 hil HAll
      go_upto_region 5 with (first
        | ((with_reducible refine gate 13 rfl ?_); refine load_entA rfl _ rfl rfl HC.out ?_)
        | ((with_reducible refine gate_store 47 rfl ?_); refine store_newE rfl rfl E B1 c1 _ _ rfl rfl rfl ?_; intro w3 hb3 ho3))
      have HB3 := Lib.hid hb3
      have HMy := Lib.hid (may_any E B1 c1 w3 HEo.out ((HM.out.only HU.out).only ho3))
      have HG3 := Lib.hid (show wr.heap.size ≠ gm from fun e => by
        obtain ⟨es, ck, h9, _⟩ := HMp.out
        have := Only.heap_lt h9
        omega)
      have HM3 := Lib.hid (map_only HMp.out ho3 id)
      replace HU := Lib.hid (HU.out.trans' ho3)
      obtain ⟨gx, hgx⟩ : ∃ gx, wr.heap.size = gx := ⟨_, rfl⟩
      rw [hgx] at HB3 HG3 ⊢
      clear hb3 ho3 HMp hgx HC HR
      clear wr
      obtain ⟨my, hmy⟩ : ∃ my, mayL E = my := ⟨_, rfl⟩
      rw [hmy] at HMy
      have HY := Lib.hid (show listAt (l.take i) E = (my && !(decide (E.kind = 4) && decide (lastKind (l.take i) E.target ≠ 1))) by unfold listAt; rw [hmy])
      clear hmy
      cases my with
      | false =>
        have HR0 := Lib.hid (HBad.out (HY.out.trans (Bool.false_and _)))
        go_wp2_with (first
          | (with_reducible refine gate 14 rfl ?_; refine load_ent rfl _ rfl rfl HB3.out ?_)
          | (go_at_call 83; refine HMy.out.mono ?_; rintro x w4 ⟨rfl, h4⟩; have H4 := Lib.hid h4; clear h4))
        go_ret
        exact ⟨by rw [HR0.out]; rfl, HU.out.trans' H4.out⟩
      | true =>
        go_wp2_with (first
          | (with_reducible refine gate 14 rfl ?_; refine load_ent rfl _ rfl rfl HB3.out ?_))
        refine HMy.out.mono ?_
        rintro x w4 ⟨rfl, h4⟩
        have HB4 := Lib.hid (h4.keeps HB3.out id)
        have HM4 := Lib.hid (map_only HM3.out h4 id)
        replace HU := Lib.hid (HU.out.trans' h4)
        have k0 : w4.cell? ⟨gx, 0, none⟩ = some (.string (B E.path)) := Joins.cell_of_block HB4.out 0
        have k1 : w4.cell? ⟨gx, 1, none⟩ = some (.int .i64 E.kind) := Joins.cell_of_block HB4.out 1
        have k6 : w4.cell? ⟨gx, 6, none⟩ = some (.string (B E.target)) := Joins.cell_of_block HB4.out 6
        have HKey := Lib.hid (key_B HEo.out.path)
        have HKt := Lib.hid (key_B HEo.out.target)
        have HAt := Lib.hid (kmap_at (l.take i) E.target)
        have HSn := Lib.hid (kmap_snoc (l.take i) E)
        clear h4 HB3 HMy HM3
        clear w3
        by_cases q4 : E.kind = 4
        · have f4 : (E.kind == 4) = true := beq_iff_eq.mpr q4
          obtain ⟨lk, hlk⟩ : ∃ lk, lastKind (l.take i) E.target = lk := ⟨_, rfl⟩
          rw [hlk] at HAt HY
          by_cases q1 : lk = 1
          · have f1 : (lk != 1) = false := by rw [q1]; rfl
            have HGo := Lib.hid (HS.out (HY.out.trans (by rw [q1]; simp)))
            clear q4 q1 hlk HY HS HBad
            go_wp2_with (first
              | (with_reducible refine gate 25 rfl ?_
                 refine gate_guard (by rfl) ?_; dsimp only
                 refine wpList_lookup_own_int _ rfl _ _ 61 rfl 9 3 .i64 keyed9 Tryz.underlying61 Tryz.underlying3 (zero3 _) gm i _ rfl HM4.out _ _ rfl HKt.out ?_
                 intro cc hat hwc
                 obtain rfl : lk = cc := by rw [HAt.out] at hat; injection hat with h8; injection h8
                 clear hat hwc)
              | (at_mapUpdate; refine wpList_mapUpdate_own _ rfl _ _ _ 61 rfl 9 3 keyed9 Tryz.underlying61 _ gm i _ rfl HM4.out (by unfold maxLen; omega) _ _ _ rfl rfl HKey.out _ [] (plainElem_int Tryz.underlying3 (WalkArith.wf_i64 HK.out)) ?_; intro w5 hown5 hgrow5))
            exact ⟨⟨i + 1, by simp, by omega, Lib.hid (by rw [HTk.out, HSn.out]; exact hown5), Lib.hid (HU.out.trans (only_grown hgrow5) (fun k hk => Or.inr (by rw [hk]; exact HG.out))), HGo⟩, by simp [intOf]; omega⟩
          · have f1 : (lk != 1) = true := bne_iff_ne.mpr q1
            have HR0 := Lib.hid (HBad.out (HY.out.trans (by rw [decide_eq_true q4, decide_eq_true q1]; rfl)))
            clear q4 q1 hlk HY HS HBad
            go_wp2_with (first
              | (with_reducible refine gate 25 rfl ?_
                 refine gate_guard (by rfl) ?_; dsimp only
                 refine wpList_lookup_own_int _ rfl _ _ 61 rfl 9 3 .i64 keyed9 Tryz.underlying61 Tryz.underlying3 (zero3 _) gm i _ rfl HM4.out _ _ rfl HKt.out ?_
                 intro cc hat hwc
                 obtain rfl : lk = cc := by rw [HAt.out] at hat; injection hat with h8; injection h8
                 clear hat hwc))
            go_ret
            exact ⟨by rw [HR0.out]; rfl, HU.out⟩
        · have f4 : (E.kind == 4) = false := beq_eq_false_iff_ne.mpr q4
          have HGo := Lib.hid (HS.out (HY.out.trans (by rw [decide_eq_false q4]; rfl)))
          clear q4 HY HS HBad
          go_wp2_with (first
            | (at_mapUpdate; refine wpList_mapUpdate_own _ rfl _ _ _ 61 rfl 9 3 keyed9 Tryz.underlying61 _ gm i _ rfl HM4.out (by unfold maxLen; omega) _ _ _ rfl rfl HKey.out _ [] (plainElem_int Tryz.underlying3 (WalkArith.wf_i64 HK.out)) ?_; intro w5 hown5 hgrow5))
          exact ⟨⟨i + 1, by simp, by omega, Lib.hid (by rw [HTk.out, HSn.out]; exact hown5), Lib.hid (HU.out.trans (only_grown hgrow5) (fun k hk => Or.inr (by rw [hk]; exact HG.out))), HGo⟩, by simp [intOf]; omega⟩
    · have d1 : decide ((i : Int) < (n : Int)) = false := decide_eq_false (by omega)
      have d1' : decide (i < n) = false := decide_eq_false ci
      obtain rfl : i = n := by omega
      have HR0 := Lib.hid (list_all (fun j hj => HAll.out j (by rw [← HN.out]; exact hj)))
      go_wp2_with fail
      go_ret
      exact ⟨by rw [HR0.out]; rfl, HU.out⟩
end Go.Proofs.YtpghionmmlidnaaGreatDoor.Walks
