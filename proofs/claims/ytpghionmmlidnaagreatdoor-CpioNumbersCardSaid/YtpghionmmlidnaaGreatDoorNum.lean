/- What told sees: Emit and Parse of nothing, Parse of the last record. CpioNumbers: what the numbers are; the law's walk. -/
import Derived.Test.YtpghionmmlidnaaGreatDoorPar
import Derived.Test.YtpghionmmlidnaaGreatDoorRep
import Derived.Test.YtpghionmmlidnaaGreatDoorOne
import Derived.Test.YtpghionmmlidnaaGreatDoorGrt
import Derived.Test.YtpghionmmlidnaaGreatDoorOpenE
import Derived.Test.YtpghionmmlidnaaGreatDoorRMay
namespace Go.Proofs.YtpghionmmlidnaaGreatDoor.Walks
open Go Go.RowKit Go.Maps Go.Proofs.YtpghionmmlidnaaGreatDoor.Aid Go.Proofs.YtpghionmmlidnaaGreatDoor.Pth Go.Proofs.YtpghionmmlidnaaGreatDoor.Own Go.Proofs.YtpghionmmlidnaaGreatDoor.OwnU Go.Proofs.YtpghionmmlidnaaGreatDoorW.PrintWords

def lastV : List Int := [0, 0, 1, 0, 0, 0, 0, 0, 0, 0, 0, 0, 0]
/-- The last record's bytes. -/
def lastB : Str := magic ++ ([48, 48, 48, 48, 48, 48, 48, 48] ++ [48, 48, 48, 48, 48, 48, 48, 48] ++ [48, 48, 48, 48, 48, 48, 48, 49] ++ List.replicate 64 48 ++ [48, 48, 48, 48, 48, 48, 48, 98] ++ [48, 48, 48, 48, 48, 48, 48, 48]) ++ trailer ++ [0, 0, 0, 0]
def wideL : Lim := ⟨1048576, 16777216, 1000, 4096⟩
theorem lastB_eq : recL [] lastV trailer [] = ints lastB := by kernel_rfl
theorem lastB_len : lastB.length = 124 := by kernel_rfl
theorem parse_last : parseL lastB wideL = .ok [] := by kernel_rfl
theorem parse_empty : parseL [] wideL = .error 2 := by kernel_rfl
theorem rep_none : repL [] 3 = -1 := by kernel_rfl
attribute [local go_sem] run_store_float
theorem quo_nan (w : World) (t : TypeId) (x y : Nat) (h : floatBits .quo .f64 x y = none) : ∃ b, (binOp .quo t (.float .f64 x) (.float .f64 y)).run Tryz.prog w = .ok (.float .f64 b) w.drew := by
  have h' : FloatKind.f64.format.div x y = none := h
  have e : binOp .quo t (.float .f64 x) (.float .f64 y) = Op.floatArith .quo .f64 x y := by simp [binOp]
  rw [e]
  unfold Op.floatArith
  simp only [h']
  exact ⟨_, rfl⟩
theorem tnone_any (w : World) : Calls Tryz.prog 35 #[] w fun e w' => ∃ b, e = .returned (.float .f64 b) ∧ Only (fun _ => False) w w' := by
  obtain ⟨b, hr⟩ := quo_nan w 38 0 0 (by kernel_rfl)
  go_enter Tryz.func35, Tryz.ntmps35
  go_wp2_with fail
  go_ret
  exact ⟨b, rfl, (Only.refl _ w).drew⟩
theorem row_put {w : World} {g i t : Nat} {xs ys : Array Value} {v : Value} (h : w.heap[g]? = some (.cells xs t (0, 0))) (e : xs.setIfInBounds i v = ys) : (w.setCell ⟨g, i, none⟩ v).heap[g]? = some (.cells ys t (0, 0)) := by
  rw [← e]; exact heap_setCell_same w g i _ _ v h
theorem load40 {w : World} {g : Nat} {a b c d : Int} {r : Nat} (h : w.heap[g]? = some (.cells #[.int .i64 a, .int .i64 b, .int .i64 c, .int .i64 d, .float .f64 r] 40 (0, 0))) : (loadVar 40 ⟨g, 0, none⟩).run Tryz.prog w = .ok (.agg #[.int .i64 a, .int .i64 b, .int .i64 c, .int .i64 d, .float .f64 r]) w := by
  have c0 : w.cell? ⟨g, 0, none⟩ = some (.int .i64 a) := Joins.cell_of_block h 0
  have c1 : w.cell? ⟨g, 1, none⟩ = some (.int .i64 b) := Joins.cell_of_block h 1
  have c2 : w.cell? ⟨g, 2, none⟩ = some (.int .i64 c) := Joins.cell_of_block h 2
  have c3 : w.cell? ⟨g, 3, none⟩ = some (.int .i64 d) := Joins.cell_of_block h 3
  have c4 : w.cell? ⟨g, 4, none⟩ = some (.float .f64 r) := Joins.cell_of_block h 4
  clear h
  go_simp
set_option maxHeartbeats 2000000 in
theorem wide_any (w : World) : Calls Tryz.prog 18 #[] w fun e w' => ∃ r, e = .returned (Bud.lim 1048576 16777216 1000 4096 r) ∧ Only (fun _ => False) w w' := by
  go_enter Tryz.func18, Tryz.ntmps18
  go_wp2_with (go_at_call 35; refine (tnone_any _).mono ?_; rintro e w1 ⟨r, rfl, h1⟩; have H1 := Lib.hid h1; have hb := h1.keeps (alloc_new _ _) id; obtain ⟨g, hg⟩ : ∃ g, w.heap.size = g := ⟨_, rfl⟩; rw [hg] at hb; simp only [hg]; have HB := Lib.hid hb; have HG := Lib.hid hg; have c0 : w1.cell? ⟨g, 0, none⟩ = some (.int .i64 0) := Joins.cell_of_block hb 0; have c1 : w1.cell? ⟨g, 1, none⟩ = some (.int .i64 0) := Joins.cell_of_block hb 1; have c2 : w1.cell? ⟨g, 2, none⟩ = some (.int .i64 0) := Joins.cell_of_block hb 2; have c3 : w1.cell? ⟨g, 3, none⟩ = some (.int .i64 0) := Joins.cell_of_block hb 3; have c4 : w1.cell? ⟨g, 4, none⟩ = some (.float .f64 0) := Joins.cell_of_block hb 4; have f0 := fun i => Joins.unfrozen_of_block hb i; clear h1 hb hg)
  have h5 := row_put (row_put (row_put (row_put (row_put HB.out (i := 0) (v := .int .i64 1048576) rfl) (i := 1) (v := .int .i64 16777216) rfl) (i := 2) (v := .int .i64 1000) rfl) (i := 3) (v := .int .i64 4096) rfl) (i := 4) (v := .float .f64 r) rfl
  refine bodyPost_ret (results_cell1 rfl rfl (load40 h5)) rfl ?_
  have hg : w.heap.size ≤ g := Nat.le_of_eq HG.out
  exact ⟨r, rfl, ((((((((Only.refl (fun _ => False) w).alloc _).trans' H1.out).setCell (.inr hg) _).setCell (.inr hg) _).setCell (.inr hg) _).setCell (.inr hg) _).setCell (.inr hg) _)⟩
set_option maxRecDepth 100000 in
set_option maxHeartbeats 4000000 in
theorem emit_none {w : World} (hm : MaxLen w) : Calls Tryz.prog 12 #[.slice none 0 0] w fun e w' => ∃ A c, e = .returned (.tuple #[.slice A 124 c, .int .i64 0]) ∧ 124 ≤ c ∧ RdU w' A lastB ∧ Only (fun _ => False) w w' := by
  have hmm := @run_makeMap Tryz.prog
  have HM := Lib.hid hm
  have HRep := Lib.hid (rep_any (w := w) (A := none) (l := []) (n := 0) (c := 0) (M := fun _ => (none, 0)) 3 rfl (by decide) (RdE.nil w _ _) (fun E h => by cases h) hm)
  rw [rep_none] at HRep
  clear hm
  go_enter Tryz.func12, Tryz.ntmps12
  go_wp2_with (first
    | (go_at_call 23; refine HRep.out.mono ?_; rintro e w1 ⟨rfl, h1⟩; have H1 := Lib.hid h1; clear h1)
    | (go_at_call 14; refine (inodes_any (l := []) (M := fun _ => (none, 0)) rfl (by decide) (RdE.nil _ _ _) (fun E h => by cases h)).mono ?_; rintro e w2 ⟨A2, c2, rfl, hc2, hr2, h2⟩; have H2 := Lib.hid h2; clear h2 hc2 hr2))
  have HO := Lib.hid ((((H1.out.trans' H2.out).alloc (.map #[] 0)).alloc (.map #[] 0)).alloc (.map #[] 0))
  obtain ⟨W, hW⟩ : ∃ W, ((w2.alloc (.map #[] 0)).alloc (.map #[] 0)).alloc (.map #[] 0) = W := ⟨_, rfl⟩
  rw [hW] at HO ⊢
  clear hW hmm
  go_loopw [27] (fun v27 u => v27 = .int .i64 0 ∧ u = W) (fun _ _ => 0)
  case atStart => exact ⟨rfl, rfl⟩
  case round =>
    obtain ⟨rfl, rfl⟩ := hrel
    go_wp2_with fail
    go_loopw [11, 58] (fun v11 v58 u => v11 = .slice none 0 0 ∧ v58 = .int .i64 0 ∧ u = wr) (fun _ _ _ => 0)
    case atStart => exact ⟨rfl, rfl, rfl⟩
    case round =>
      obtain ⟨rfl, rfl, rfl⟩ := hrel
      have HR := Lib.hid (record_any (w := wr) (l := []) (v := .slice none 0 0) (base := wr.heap.size) (vs := lastV) (name := trailer) (dt := []) (A := none) (n := 0) (c := 0) rfl (by decide) (ownU_nil wr.heap.size wr) (Nat.le_refl _) (by decide) (by decide) rfl (by decide) (RdU.nil wr none) (fun ad h => by cases h))
      go_wp2_with (go_at_call 28; refine HR.out.mono ?_; rintro e w9 ⟨v9, rfl, h9, h10⟩; have H9 := Lib.hid h9; have H10 := Lib.hid h10; clear h9 h10)
      go_ret2
      obtain ⟨A, c, e, hc, hr⟩ := ownU_rd H9.out
      rw [lastB_eq] at e hc hr
      have hl : (ints lastB).length = 124 := by rw [ints_len, lastB_len]
      rw [hl] at e hc
      subst e
      exact ⟨A, c, rfl, hc, hr, HO.out.trans H10.out.only (fun k hk => by cases hk)⟩
theorem told_parse {w : World} {A : Option Addr} {c r : Nat} (hr : RdU w A lastB) (hc : 124 ≤ c) (hm : MaxLen w) : Calls Tryz.prog 17 #[.slice A 124 c, Bud.lim 1048576 16777216 1000 4096 r] w fun e w' => ∃ A c, e = .returned (.tuple #[.slice A 0 c, .int .i64 0]) ∧ Only (fun _ => False) w w' :=
  (parse_any (L := wideL) (r := r) hr lastB_len (by decide) hc hm).mono (fun e w' h => by
    unfold ParsePost at h
    rw [parse_last] at h
    obtain ⟨ho, A, cap, es, he, _⟩ := h
    exact ⟨A, cap, he, ho⟩)
theorem told_nil {w : World} {r : Nat} (hm : MaxLen w) : Calls Tryz.prog 17 #[.slice none 0 0, Bud.lim 1048576 16777216 1000 4096 r] w fun e w' => e = .returned (.tuple #[.slice none 0 0, .int .i64 2]) ∧ Only (fun _ => False) w w' :=
  (parse_any (L := wideL) (r := r) (b := []) (RdU.nil w none) rfl (by decide) (Nat.le_refl _) hm).mono (fun e w' h => by
    unfold ParsePost at h
    rw [parse_empty] at h
    exact ⟨h.2, h.1⟩)
def toldL : List Ent := [{ e0 with path := [97], kind := 1 }, { e0 with path := [98], kind := 4, target := [97] }]
theorem addz (a : Addr) : a.add 0 = a := by unfold Addr.add; split <;> simp_all
theorem told_ok : EsOk toldL := fun E h => by
  rcases List.mem_cons.1 h with rfl | h
  · exact ⟨⟨by decide, by decide, by decide⟩, by decide, by decide⟩
  · rw [List.mem_singleton.1 h]; exact ⟨⟨by decide, by decide, by decide⟩, by decide, by decide⟩
theorem told_ino : inoL toldL = [1, 1] := by kernel_rfl
set_option maxRecDepth 100000 in
set_option maxHeartbeats 4000000 in
theorem told_any {w : World} (hm : MaxLen w) : Calls Tryz.prog 10 #[] w fun e w' => e = .returned (.bool true) ∧ Only (fun _ => False) w w' := by
  have HM := Lib.hid hm
  have HE := Lib.hid (emit_none hm)
  clear hm
  go_enter Tryz.func10, Tryz.ntmps10
  go_wp2_with (first
    | (go_at_call 12; refine HE.out.mono ?_; rintro e w1 ⟨A1, c1, rfl, hc1, hr1, h1⟩; have H1 := Lib.hid h1; have HR1 := Lib.hid hr1; have HC1 := Lib.hid hc1; clear h1 hr1 hc1))
  go_at_call 18
  refine (wide_any _).mono ?_
  rintro e w2 ⟨r2, rfl, h2⟩
  have HM2 := Lib.hid ((HM.out.only H1.out).only h2)
  have HP2 := Lib.hid (told_parse (w := w2) (r := r2) (HR1.out.only h2) HC1.out HM2.out)
  have H2 := Lib.hid (H1.out.trans' h2)
  clear h2
  go_wp2_with (go_at_call 17; refine HP2.out.mono ?_; rintro e w3 ⟨A3, c3, rfl, h3⟩; have H3 := Lib.hid (H2.out.trans' h3); clear h3)
  go_at_call 18
  refine (wide_any _).mono ?_
  rintro e w4 ⟨r4, rfl, h4⟩
  have H4 := Lib.hid (H3.out.trans' h4)
  clear h4
  have HP4 := Lib.hid (told_nil (w := w4) (r := r4) (HM.out.only H4.out))
  go_wp2_with (go_at_call 17; refine HP4.out.mono ?_; rintro e w5 ⟨rfl, h5⟩; have H5 := Lib.hid (H4.out.trans' h5); clear h5)
  go_at_call 14
  have hrd := rde_lit (w := w5) (C := #[.string ⟨#[97]⟩, .int .i64 1, .int .i64 0, .int .i64 0, .int .i64 0, .float .f64 0, .string ⟨#[]⟩, .slice none 0 0, .string ⟨#[98]⟩, .int .i64 4, .int .i64 0, .int .i64 0, .int .i64 0, .float .f64 0, .string ⟨#[97]⟩, .slice none 0 0]) [({ e0 with path := [97], kind := 1 }, none, 0), ({ e0 with path := [98], kind := 4, target := [97] }, none, 0)] rfl (fun e he => by
    rcases List.mem_cons.1 he with rfl | he
    · exact ⟨RdU.nil _ _, Nat.le_refl _⟩
    · rw [List.mem_singleton.1 he]; exact ⟨RdU.nil _ _, Nat.le_refl _⟩)
  refine (inodes_any (l := toldL) rfl (by decide) hrd told_ok).mono ?_
  rintro e w7 ⟨A7, c7, rfl, hc7, hr7, h7⟩
  clear hrd
  rw [told_ino] at hr7
  have hl2 : toldL.length = 2 := rfl
  rw [hl2] at hc7
  simp only [hl2]
  clear hl2
  obtain ⟨ad, rfl, hcl⟩ := hr7 (by decide)
  have k0 : w7.cell? ad = some (.int .i64 1) := by have h := hcl 0 (by decide); rwa [addz] at h
  have k1 : w7.cell? ⟨ad.block, ad.off + 1, none⟩ = some (.int .i64 1) := hcl 1 (by decide)
  have H7 := Lib.hid ((H5.out.alloc _).trans' h7)
  clear h7 hc7 hcl hr7
  go_wp2_with fail
  go_ret
  exact ⟨rfl, H7.out⟩
end Go.Proofs.YtpghionmmlidnaaGreatDoor.Walks
namespace Go.Proofs.YtpghionmmlidnaaGreatDoor.Walks
open Go Go.RowKit Go.Proofs.YtpghionmmlidnaaGreatDoor.Aid Go.Proofs.YtpghionmmlidnaaGreatDoor.Pth Go.Proofs.YtpghionmmlidnaaGreatDoor.Own Go.Proofs.YtpghionmmlidnaaGreatDoorW.PrintWords

theorem fileN_snoc (l : List Ent) (E : Ent) (t : Str) : fileN (l ++ [E]) t = if E.kind = 1 ∧ E.path = t then (l.length : Int) + 1 else fileN l t := by
  unfold fileN
  rw [List.foldl_append]
  have h2 := fstep_snd t l (0, 0)
  obtain ⟨s, hs⟩ : ∃ s, l.foldl (fstep t) (0, 0) = s := ⟨_, rfl⟩
  rw [hs] at h2 ⊢
  show (fstep t s E).1 = _
  unfold fstep
  rw [h2]
  by_cases a : E.kind = 1
  · by_cases b : E.path = t
    · rw [if_pos a, if_pos b, if_pos ⟨a, b⟩]; simp
    · rw [if_pos a, if_neg b, if_neg (fun h => b h.2)]
  · rw [if_neg a, if_neg (fun h => a h.1)]
theorem lastKind_snoc (l : List Ent) (E : Ent) (t : Str) : lastKind (l ++ [E]) t = if E.path = t then E.kind else lastKind l t := by
  unfold lastKind
  rw [List.foldl_append]
  rfl
/-- The number of a path's last file is its place, one on. -/
theorem fileN_facts (t : Str) : ∀ (n : Nat) (l : List Ent), l.length = n → lastKind l t = 1 → ∃ k : Nat, k < n ∧ fileN l t = (k : Int) + 1 ∧ (l.getD k e0).kind = 1 ∧ (l.getD k e0).path = t := by
  intro n
  induction n with
  | zero =>
    intro l hl h
    obtain rfl : l = [] := List.length_eq_zero_iff.1 hl
    exact absurd (show (0 : Int) = 1 from h) (by decide)
  | succ n ih =>
    intro l hl h
    obtain ⟨r, E, rfl⟩ : ∃ r E, l = r ++ [E] := ⟨l.dropLast, l.getLast (fun e => by rw [e] at hl; cases hl), (List.dropLast_concat_getLast _).symm⟩
    have hr : r.length = n := by rw [List.length_append, List.length_singleton] at hl; omega
    rw [fileN_snoc]
    rw [lastKind_snoc] at h
    have hE : (r ++ [E]).getD n e0 = E := by rw [← hr]; simp
    by_cases c : E.kind = 1 ∧ E.path = t
    · rw [if_pos c]
      exact ⟨n, by omega, by rw [hr], by rw [hE]; exact c.1, by rw [hE]; exact c.2⟩
    · rw [if_neg c]
      have h' : lastKind r t = 1 := by
        by_cases b : E.path = t
        · rw [if_pos b] at h; exact absurd ⟨h, b⟩ c
        · rwa [if_neg b] at h
      obtain ⟨k, h1, h2, h3, h4⟩ := ih r hr h'
      have hk : (r ++ [E]).getD k e0 = r.getD k e0 := by
        rw [List.getD_eq_getElem?_getD, List.getD_eq_getElem?_getD, List.getElem?_append_left (by omega)]
      exact ⟨k, by omega, h2, by rw [hk]; exact h3, by rw [hk]; exact h4⟩
theorem list_neg {l : List Ent} (h : ¬ listL l ≥ 0) : ∀ i, i < l.length → listAt (l.take i) (l.getD i e0) = true := by
  intro i hi
  unfold listL at h
  cases hf : (List.range l.length).find? (fun i => !(listAt (l.take i) (l.getD i e0))) with
  | none =>
    have := List.find?_eq_none.1 hf i (List.mem_range.2 hi)
    simpa using this
  | some j => rw [hf] at h; exact absurd (Int.natCast_nonneg j) h
/-- Another name's number is that of a file ahead, of its target. -/
theorem ino_hard {l : List Ent} {i : Nat} (hi : i < l.length) (h : listAt (l.take i) (l.getD i e0) = true) (hk : (l.getD i e0).kind = 4) :
    ∃ k : Nat, k < i ∧ (inoL l).getD i 0 = (k : Int) + 1 ∧ (l.getD k e0).kind = 1 ∧ (l.getD k e0).path = (l.getD i e0).target := by
  unfold listAt at h
  rw [Bool.and_eq_true] at h
  have h2 := h.2
  rw [decide_eq_true hk] at h2
  have h3 : lastKind (l.take i) (l.getD i e0).target = 1 := by simpa using h2
  obtain ⟨k, k1, k2, k3, k4⟩ := fileN_facts _ i (l.take i) (by rw [List.length_take]; omega) h3
  have e : (l.take i).getD k e0 = l.getD k e0 := by rw [List.getD_eq_getElem?_getD, List.getD_eq_getElem?_getD, List.getElem?_take_of_lt k1]
  rw [e] at k3 k4
  refine ⟨k, k1, ?_, k3, k4⟩
  rw [← k2]
  unfold inoL inoTo
  rw [List.getD_eq_getElem?_getD, List.getElem?_map, List.getElem?_range hi]
  show inoAt _ _ = _
  unfold inoAt
  rw [if_pos hk]
theorem ino_else {l : List Ent} {i : Nat} (hi : i < l.length) (hk : (l.getD i e0).kind ≠ 4) : (inoL l).getD i 0 = (i : Int) + 1 := by
  unfold inoL inoTo
  rw [List.getD_eq_getElem?_getD, List.getElem?_map, List.getElem?_range hi]
  show inoAt _ _ = _
  unfold inoAt
  rw [if_neg hk, List.length_take]
  omega
attribute [-go_sem] loadVar
attribute [local go_sem] lv9 lv3
set_option maxRecDepth 100000 in
set_option maxHeartbeats 4000000 in
theorem numbers_law {w : World} {A : Option Addr} {l : List Ent} {n c : Nat} {M : Nat → Option Addr × Nat} (hn : l.length = n) (hl : n ≤ 9223372036854775807) (hc : n ≤ c) (hR : RdE w A l M) (hI : ∀ E ∈ l, EIn E) (hm : MaxLen w) :
    Calls Tryz.prog 8 #[.slice A n c] w (BoolPost true w) := by
  have HN := Lib.hid hn
  have HR := Lib.hid hR
  have HM := Lib.hid hm
  have HG := Lib.hid (great_any (c := c) hn hl hR hI)
  obtain ⟨g, hg⟩ : ∃ g, greatL l = g := ⟨_, rfl⟩
  rw [hg] at HG
  cases g with
  | true =>
    have HT := Lib.hid (told_any hm)
    clear hg hl hR hI hn hm hc
    go_enter Tryz.func8, Tryz.ntmps8
    go_wp2_with (first
      | (go_at_call 9; refine HG.out.mono ?_; rintro x w1 ⟨rfl, hw⟩; obtain rfl := hw.symm)
      | (go_at_call 10; refine HT.out.mono ?_; rintro x w1 ⟨rfl, ho⟩; have HO := Lib.hid ho; clear ho))
    go_ret
    exact ⟨rfl, HO.out⟩
  | false =>
    obtain ⟨hl12, _⟩ := EOk.of_small hg
    have HE := Lib.hid (small_ok hg hI)
    have b1 : n ≤ 12 := by omega
    have HRL := Lib.hid (rlist_any (c := c) hn (by omega) hc hR HE.out)
    have HMt := Lib.hid (fun u (ho : Only (fun _ => False) w u) => told_any (hm.only ho))
    by_cases hL : listL l ≥ 0
    · have d1 : decide (listL l ≥ 0) = true := decide_eq_true hL
      have d1' : decide (0 ≤ listL l) = true := decide_eq_true hL
      clear hg hl hR hI hn hm hc hl12
      go_enter Tryz.func8, Tryz.ntmps8
      go_wp2_with (first
        | (go_at_call 9; refine HG.out.mono ?_; rintro x w1 ⟨rfl, hw⟩; obtain rfl := hw.symm)
        | (go_at_call 21; refine HRL.out.mono ?_; rintro x w1 ⟨rfl, ho⟩; have HO1 := Lib.hid ho; clear ho)
        | (go_at_call 10; refine (HMt.out _ HO1.out).mono ?_; rintro x w2 ⟨rfl, ho⟩; have HO := Lib.hid (HO1.out.trans' ho); clear ho))
      go_ret
      exact ⟨rfl, HO.out⟩
    · have HLn := Lib.hid (list_neg hL)
      have d1 : decide (listL l ≥ 0) = false := decide_eq_false hL
      have d1' : decide (0 ≤ listL l) = false := decide_eq_false hL
      have HIn := Lib.hid (fun u (ho : Only (fun _ => False) w u) => inodes_any (c := c) hn (show n ≤ 100000 by omega) (hR.only ho) HE.out)
      obtain ⟨z, hz⟩ : ∃ z, listL l = z := ⟨_, rfl⟩
      rw [hz] at d1 d1' HRL
      clear hg hl hR hI hn hm hc hl12 hL hz
      go_enter Tryz.func8, Tryz.ntmps8
      go_wp2_with (first
        | (go_at_call 9; refine HG.out.mono ?_; rintro x w1 ⟨rfl, hw⟩; obtain rfl := hw.symm)
        | (go_at_call 21; refine HRL.out.mono ?_; rintro x w1 ⟨rfl, ho⟩; have HO1 := Lib.hid ho; clear ho)
        | (go_at_call 14; refine (HIn.out _ HO1.out).mono ?_; rintro x w2 ⟨A2, c2, rfl, hc2, hr2, ho⟩; have HO2 := Lib.hid (HO1.out.trans' ho); have HR2 := Lib.hid hr2; rw [HN.out]; clear ho hc2 hr2))
      obtain ⟨W, hW⟩ : ∃ W, w2 = W := ⟨_, rfl⟩
      subst hW
      have HRw := Lib.hid (HR.out.only HO2.out)
      clear HIn HRL HG HM HR
      go_loopw [4] (fun v4 u => ∃ i : Nat, v4 = .int .i64 (i : Int) ∧ i ≤ n ∧ Hid (Only (fun _ => False) w2 u)) (fun i _ => n - (intOf i).toNat)
      case atStart => exact ⟨0, rfl, by omega, Lib.hid (Only.refl _ _)⟩
      case round =>
        obtain ⟨i, rfl, hi, HU⟩ := hrel
        by_cases ci : i < n
        · have e1 : decide ((i : Int) < (n : Int)) = true := decide_eq_true (by omega)
          have e1' : decide (i < n) = true := decide_eq_true ci
          have e2 : (i : Int) < (n : Int) := by omega
          have hil : i < l.length := by rw [HN.out]; exact ci
          obtain ⟨ad2, rfl, hc2⟩ := (rd_only HR2.out HU.out) (by show 0 < (inoTo l l.length).length; rw [inoTo_len]; omega)
          have y0 := hc2 i (by show i < (inoTo l l.length).length; rw [inoTo_len]; exact hil)
          obtain ⟨ad, rfl, hat, hen⟩ := (HRw.out.only HU.out).at hil
          have HLi := Lib.hid (HLn.out i hil)
          by_cases ck : (l.getD i e0).kind = 4
          · obtain ⟨k, k1, k2, k3, k4⟩ := ino_hard hil HLi.out ck
            obtain ⟨adk, hak, hatk, henk⟩ := (HRw.out.only HU.out).at (show k < l.length by omega)
            injection hak with hak
            subst hak
            rw [k2] at y0
            obtain ⟨E, hE⟩ : ∃ E, l.getD i e0 = E := ⟨_, rfl⟩
            obtain ⟨F, hF⟩ : ∃ F, l.getD k e0 = F := ⟨_, rfl⟩
            rw [hE] at hat ck k4
            rw [hF] at hatk k3 k4
            have x1 : wr.cell? ⟨(ad.add (i * 8)).block, (ad.add (i * 8)).off + 1, none⟩ = some (.int .i64 E.kind) := by have := hat 1 _ rfl; rwa [add_add, Aid.add_field _ _ _ (by decide)] at this
            have x6 : wr.cell? ⟨(ad.add (i * 8)).block, (ad.add (i * 8)).off + 6, none⟩ = some (.string (B E.target)) := by have := hat 6 _ rfl; rwa [add_add, Aid.add_field _ _ _ (by decide)] at this
            have z1 : wr.cell? ⟨(ad.add (k * 8)).block, (ad.add (k * 8)).off + 1, none⟩ = some (.int .i64 F.kind) := by have := hatk 1 _ rfl; rwa [add_add, Aid.add_field _ _ _ (by decide)] at this
            have z0 : wr.cell? (ad.add (k * 8)) = some (.string (B F.path)) := by have := hatk 0 _ rfl; rwa [show (ad.add (k * 8)).add 0 = ad.add (k * 8) from by rw [add_add]; rfl] at this
            rw [ck] at x1
            rw [k3] at z1
            rw [k4] at z0
            obtain ⟨S, hS⟩ : ∃ S, B E.target = S := ⟨_, rfl⟩
            rw [hS] at x6 z0
            have g1 : decide ((k : Int) < 0) = false := decide_eq_false (by omega)
            have g2 : decide ((k : Int) ≥ (i : Int)) = false := decide_eq_false (by omega)
            have g2' : decide (i ≤ k) = false := decide_eq_false (by omega)
            have g3 : (k : Int) < (n : Int) := by omega
            clear hE hF hat hatk henk hen hc2 hil hS k2 ck k3 k4 HLi
            go_upto_region 13 with (fail)
            go_quiet (fail)
            go_wp2_with fail
            exact ⟨⟨i + 1, by simp, by omega, Lib.hid (HU.out.drewN _)⟩, by simp [intOf]; omega⟩
          · have hz := ino_else hil ck
            rw [hz] at y0
            obtain ⟨E, hE⟩ : ∃ E, l.getD i e0 = E := ⟨_, rfl⟩
            rw [hE] at hat ck
            have x1 : wr.cell? ⟨(ad.add (i * 8)).block, (ad.add (i * 8)).off + 1, none⟩ = some (.int .i64 E.kind) := by have := hat 1 _ rfl; rwa [add_add, Aid.add_field _ _ _ (by decide)] at this
            have q4 : (E.kind != 4) = true := by simpa using ck
            have q5 : ((i : Int) + 1 != (i : Int) + 1) = false := by simp
            clear hE hat hen hc2 hil hz ck HLi
            go_wp2_with fail
            exact ⟨⟨i + 1, by simp, by omega, HU⟩, by simp [intOf]; omega⟩
        · have e1 : decide ((i : Int) < (n : Int)) = false := decide_eq_false (by omega)
          have e1' : decide (i < n) = false := decide_eq_false ci
          go_wp2_with (go_at_call 10; refine (HMt.out _ (HO2.out.trans' HU.out)).mono ?_; rintro x w3 ⟨rfl, ho⟩; have HO := Lib.hid ((HO2.out.trans' HU.out).trans' ho); clear ho)
          go_ret
          exact ⟨rfl, HO.out⟩
set_option maxRecDepth 100000 in
set_option maxHeartbeats 4000000 in
theorem lawNumbers {H : Type} {enc : TypeId × Value → H} {W : World} {base : Nat} {v0 : Value} {d0 : DataW H} {p0 : List MemPlace} {ts : List TypeId} {ds : List (DataW H)} (hm : MaxLen W)
    (ov0 : Value.okWide Tryz.prog W .any base 22 v0) (k0 : DataW.Trod enc Tryz.prog W 0 (fun _ => true) true 22 v0 d0 p0)
    (_ : (DataW.weightsEach Tryz.prog ts ds).all (· ≤ reachBytes) = true) :
    Calls Tryz.prog 8 #[v0] W fun e w' => e = .returned (.bool true) ∧ Below W.heap.size W w' := by
  obtain ⟨A, l, n, c, M, rfl, hn, hc, hl, hR, hI⟩ := open_ents ov0 k0
  exact (numbers_law hn hl hc hR hI hm).mono fun x w' h => ⟨h.1, h.2.none⟩
end Go.Proofs.YtpghionmmlidnaaGreatDoor.Walks
