/- Contracts of the reference's Same and SameList of entries. Contract of the reference's SameList of entries. -/
import Derived.Test.YtpghionmmlidnaaGreatDoorTim
import Derived.Test.YtpghionmmlidnaaGreatDoorLst
import Derived.Deep.RegionHeld3
namespace Go.Proofs.YtpghionmmlidnaaGreatDoor.Walks
open Go Go.RowKit Go.Proofs.YtpghionmmlidnaaGreatDoor.Aid Go.Proofs.YtpghionmmlidnaaGreatDoor.Pth Go.Proofs.YtpghionmmlidnaaGreatDoor.Own Go.Proofs.YtpghionmmlidnaaGreatDoorW.PrintWords

def sameL (E F : Ent) : Bool := decide (E.path = F.path) && (decide (E.kind = F.kind) && (decide (E.mode = F.mode) && (decide (E.uid = F.uid) && (decide (E.gid = F.gid) && (tSame E.time F.time && (decide (E.target = F.target) && decide (E.data = F.data)))))))
theorem B_inj {s t : Str} : (B s = B t) = (s = t) := propext ⟨fun h => by have := congrArg (fun x => x.data.toList) h; simpa [B] using this, fun h => by rw [h]⟩
theorem str_eqB (s t : Str) : ((B s).toList == (B t).toList) = decide (s = t) := by rw [str_eq]; exact decide_eq_decide.2 (by rw [B_inj])
theorem int_eqd (x y : Int) : (x == y) = decide (x = y) := by
  by_cases h : x = y
  · rw [decide_eq_true h]; exact beq_iff_eq.mpr h
  · rw [decide_eq_false h]; exact beq_eq_false_iff_ne.mpr h
set_option maxRecDepth 100000 in
set_option maxHeartbeats 4000000 in
theorem rsame_any {E F : Ent} {A A' : Option Addr} {c c' : Nat} {w : World} (hE : EntAt w E A c) (hF : EntAt w F A' c') :
    Calls Tryz.prog 36 #[eval E A c, eval F A' c'] w (BoolPost (sameL E F) w) := by
  have hO1 := (Only.refl (fun _ => False) w).alloc (.cells (erow E A c) 47)
  have hB1 := alloc_new w (.cells (erow E A c) 47)
  have hO2 := (Only.refl (fun _ => False) (w.alloc (.cells (erow E A c) 47))).alloc (.cells (erow F A' c') 47)
  have hB2 := alloc_new (w.alloc (.cells (erow E A c) 47)) (.cells (erow F A' c') 47)
  have hs : (w.alloc (.cells (erow E A c) 47)).heap.size = w.heap.size + 1 := alloc_size w _
  rw [hs] at hB2
  replace hB1 := hO2.keeps hB1 id
  have hO := hO1.trans' hO2
  obtain ⟨g1, hg1⟩ : ∃ g1, w.heap.size = g1 := ⟨_, rfl⟩
  obtain ⟨g2, hg2⟩ : ∃ g2, w.heap.size + 1 = g2 := ⟨_, rfl⟩
  obtain ⟨W, hW⟩ : ∃ W, (w.alloc (.cells (erow E A c) 47)).alloc (.cells (erow F A' c') 47) = W := ⟨_, rfl⟩
  have HG := Lib.hid (And.intro hg1 (And.intro hg2 hW))
  rw [hg1, hW] at hB1
  rw [hg2, hW] at hB2
  rw [hW] at hO
  have HO := Lib.hid hO
  have HCE := str_u c (hE.1.only hO) rfl
  have HCF := str_u c' (hF.1.only hO) rfl
  have c0 : W.cell? ⟨g1, 0, none⟩ = some (.string (B E.path)) := Joins.cell_of_block hB1 0
  have c1 : W.cell? ⟨g1, 1, none⟩ = some (.int .i64 E.kind) := Joins.cell_of_block hB1 1
  have c2 : W.cell? ⟨g1, 2, none⟩ = some (.int .i64 E.mode) := Joins.cell_of_block hB1 2
  have c3 : W.cell? ⟨g1, 3, none⟩ = some (.int .i64 E.uid) := Joins.cell_of_block hB1 3
  have c4 : W.cell? ⟨g1, 4, none⟩ = some (.int .i64 E.gid) := Joins.cell_of_block hB1 4
  have c5 : W.cell? ⟨g1, 5, none⟩ = some (.float .f64 E.time) := Joins.cell_of_block hB1 5
  have c6 : W.cell? ⟨g1, 6, none⟩ = some (.string (B E.target)) := Joins.cell_of_block hB1 6
  have c7 : W.cell? ⟨g1, 7, none⟩ = some (.slice A E.data.length c) := Joins.cell_of_block hB1 7
  have d0 : W.cell? ⟨g2, 0, none⟩ = some (.string (B F.path)) := Joins.cell_of_block hB2 0
  have d1 : W.cell? ⟨g2, 1, none⟩ = some (.int .i64 F.kind) := Joins.cell_of_block hB2 1
  have d2 : W.cell? ⟨g2, 2, none⟩ = some (.int .i64 F.mode) := Joins.cell_of_block hB2 2
  have d3 : W.cell? ⟨g2, 3, none⟩ = some (.int .i64 F.uid) := Joins.cell_of_block hB2 3
  have d4 : W.cell? ⟨g2, 4, none⟩ = some (.int .i64 F.gid) := Joins.cell_of_block hB2 4
  have d5 : W.cell? ⟨g2, 5, none⟩ = some (.float .f64 F.time) := Joins.cell_of_block hB2 5
  have d6 : W.cell? ⟨g2, 6, none⟩ = some (.string (B F.target)) := Joins.cell_of_block hB2 6
  have d7 : W.cell? ⟨g2, 7, none⟩ = some (.slice A' F.data.length c') := Joins.cell_of_block hB2 7
  have HS : sameL E F = (decide (E.path = F.path) && (decide (E.kind = F.kind) && (decide (E.mode = F.mode) && (decide (E.uid = F.uid) && (decide (E.gid = F.gid) && (tSame E.time F.time && (decide (E.target = F.target) && decide (E.data = F.data)))))))) := rfl
  have e0 := str_eqB E.path F.path
  have e1 := int_eqd E.kind F.kind
  have e2 := int_eqd E.mode F.mode
  have e3 := int_eqd E.uid F.uid
  have e4 := int_eqd E.gid F.gid
  have e6 := str_eqB E.target F.target
  have e7 := str_eqB E.data F.data
  have HT := Lib.hid (rtsame_any E.time F.time W)
  obtain ⟨b0, h0⟩ : ∃ b0 : Bool, decide (E.path = F.path) = b0 := ⟨_, rfl⟩
  obtain ⟨b1, h1⟩ : ∃ b1 : Bool, decide (E.kind = F.kind) = b1 := ⟨_, rfl⟩
  obtain ⟨b2, h2⟩ : ∃ b2 : Bool, decide (E.mode = F.mode) = b2 := ⟨_, rfl⟩
  obtain ⟨b3, h3⟩ : ∃ b3 : Bool, decide (E.uid = F.uid) = b3 := ⟨_, rfl⟩
  obtain ⟨b4, h4⟩ : ∃ b4 : Bool, decide (E.gid = F.gid) = b4 := ⟨_, rfl⟩
  obtain ⟨b5, h5⟩ : ∃ b5 : Bool, tSame E.time F.time = b5 := ⟨_, rfl⟩
  obtain ⟨b6, h6⟩ : ∃ b6 : Bool, decide (E.target = F.target) = b6 := ⟨_, rfl⟩
  obtain ⟨b7, h7⟩ : ∃ b7 : Bool, decide (E.data = F.data) = b7 := ⟨_, rfl⟩
  rw [h0, h1, h2, h3, h4, h5, h6, h7] at HS
  rw [h0] at e0; rw [h1] at e1; rw [h2] at e2; rw [h3] at e3; rw [h4] at e4; rw [h5] at HT; rw [h6] at e6; rw [h7] at e7
  replace HS := Lib.hid HS
  obtain ⟨n1, hn1⟩ : ∃ n1, E.data.length = n1 := ⟨_, rfl⟩
  obtain ⟨n2, hn2⟩ : ∃ n2, F.data.length = n2 := ⟨_, rfl⟩
  rw [hn1] at c7 HCE
  rw [hn2] at d7 HCF
  clear h0 h1 h2 h3 h4 h5 h6 h7 hO1 hO2 hB1 hB2 hO hg1 hg2 hW hs hE hF hn1 hn2
  go_enter Tryz.func36, Tryz.ntmps36
  go_upto_region 1 with (fail)
  change Code.wp Tryz.prog _ _ _ ((w.alloc (.cells (erow E A c) 47)).alloc (.cells (erow F A' c') 47))
  rw [HG.out.2.2, HG.out.1]
  try rw [show g1 + 1 = g2 by have := HG.out; omega]
  rcases way b0 (way b1 (way b2 (way b3 (way b4 (way b5 (way b6 (ways b7))))))) with rfl | ⟨rfl, rfl | ⟨rfl, rfl | ⟨rfl, rfl | ⟨rfl, rfl | ⟨rfl, rfl | ⟨rfl, rfl | ⟨rfl, rfl | rfl⟩⟩⟩⟩⟩⟩⟩
  all_goals
    go_wp2_with (go_at_call 29; (with_reducible refine HT.out.mono ?_); rintro x w1 ⟨rfl, rfl⟩)
    go_ret
    exact ⟨by rw [HS.out]; rfl, HO.out⟩
end Go.Proofs.YtpghionmmlidnaaGreatDoor.Walks
namespace Go.Proofs.YtpghionmmlidnaaGreatDoor.Walks
open Go Go.RowKit Go.Proofs.YtpghionmmlidnaaGreatDoor.Aid Go.Proofs.YtpghionmmlidnaaGreatDoor.Pth Go.Proofs.YtpghionmmlidnaaGreatDoor.Own Go.Proofs.YtpghionmmlidnaaGreatDoorW.PrintWords

/-- An entry lies at an address. -/
def EAt (u : World) (a : Addr) (E : Ent) (A : Option Addr) (c : Nat) : Prop := ∀ j v, (erow E A c)[j]? = some v → u.cell? (a.add j) = some v
theorem EAt.only {u v : World} {a : Addr} {E : Ent} {A : Option Addr} {c : Nat} (h : EAt u a E A c) (ho : Only (fun _ => False) u v) : EAt v a E A c := fun j x hx => ho.cell (h j x hx) id
theorem EAt.load {u : World} {a : Addr} {E : Ent} {A : Option Addr} {c : Nat} (h : EAt u a E A c) : (loadVar 47 a).run Tryz.prog u = .ok (eval E A c) u := load_at h
/-- One entry of a slice that reads as a list. -/
theorem RdE.at {w : World} {A : Option Addr} {l : List Ent} {M : Nat → Option Addr × Nat} (h : RdE w A l M) {i : Nat} (hi : i < l.length) :
    ∃ ad, A = some ad ∧ EAt w (ad.add (i * 8)) (l.getD i e0) (M i).1 (M i).2 ∧ EntAt w (l.getD i e0) (M i).1 (M i).2 := by
  have hE : l[i]? = some (l.getD i e0) := by rw [List.getD_eq_getElem?_getD, List.getElem?_eq_getElem hi]; rfl
  obtain ⟨h1, ad, h2, h3⟩ := h i _ hE
  exact ⟨ad, h2, fun j v hv => by rw [add_add]; exact h3 j v hv, h1⟩
def sameLs (l m : List Ent) : Bool := decide (l.length = m.length) && (List.range l.length).all (fun i => sameL (l.getD i e0) (m.getD i e0))
theorem sameLs_len {l m : List Ent} (h : l.length ≠ m.length) : sameLs l m = false := by unfold sameLs; rw [decide_eq_false h]; rfl
theorem sameLs_bad {l m : List Ent} {i : Nat} (hi : i < l.length) (h : sameL (l.getD i e0) (m.getD i e0) = false) : sameLs l m = false := by
  unfold sameLs
  rw [Bool.and_eq_false_iff]
  right
  rw [List.all_eq_false]
  exact ⟨i, List.mem_range.2 hi, by rw [h]; exact Bool.false_ne_true⟩
theorem sameLs_all {l m : List Ent} (hl : l.length = m.length) (h : ∀ i, i < l.length → sameL (l.getD i e0) (m.getD i e0) = true) : sameLs l m = true := by
  unfold sameLs
  rw [Bool.and_eq_true, decide_eq_true_eq, List.all_eq_true]
  exact ⟨hl, fun i hi => h i (List.mem_range.1 hi)⟩
attribute [-go_sem] loadVar
set_option maxRecDepth 100000 in
set_option maxHeartbeats 4000000 in
theorem rsamelist_any {w : World} {A A' : Option Addr} {l l' : List Ent} {n n' c c' : Nat} {M M' : Nat → Option Addr × Nat} (hn : l.length = n) (hn' : l'.length = n') (hl : n ≤ 100000) (hl' : n' ≤ 9223372036854775807) (hR : RdE w A l M) (hR' : RdE w A' l' M') :
    Calls Tryz.prog 19 #[.slice A n c, .slice A' n' c'] w (BoolPost (sameLs l l') w) := by
  by_cases q : n = n'
  · subst q
    have HN := Lib.hid hn
    have HN' := Lib.hid hn'
    have HR := Lib.hid hR
    have HR' := Lib.hid hR'
    have b1 : n ≤ 100000 := hl
    clear hn hn' hl hl' hR hR'
    go_enter Tryz.func19, Tryz.ntmps19
    go_wp2_with fail
    go_loopw [5] (fun v5 u => ∃ i : Nat, v5 = .int .i64 (i : Int) ∧ i ≤ n ∧ Hid (Only (fun _ => False) w u) ∧ Hid (∀ j, j < i → sameL (l.getD j e0) (l'.getD j e0) = true)) (fun i _ => n - (intOf i).toNat)
    case atStart => exact ⟨0, rfl, by omega, Lib.hid (Only.refl _ _), Lib.hid (fun j h => absurd h (by omega))⟩
    case round =>
      obtain ⟨i, rfl, hi, HU, HAll⟩ := hrel
      by_cases ci : i < n
      · have e1 : decide ((i : Int) < (n : Int)) = true := decide_eq_true (by omega)
        have e1' : decide (i < n) = true := decide_eq_true ci
        have e2 : (i : Int) < (n : Int) := by omega
        obtain ⟨ad, rfl, hat, hen⟩ := (HR.out.only HU.out).at (i := i) (by rw [HN.out]; exact ci)
        obtain ⟨ad', rfl, hat', hen'⟩ := (HR'.out.only HU.out).at (i := i) (by rw [HN'.out]; exact ci)
        have HS := Lib.hid (fun u (h1 : Only (fun _ => False) wr u) => rsame_any (hen.only h1) (hen'.only h1))
        have HGo := Lib.hid (fun (h : sameL (l.getD i e0) (l'.getD i e0) = true) (j : Nat) (hj : j < i + 1) => show sameL (l.getD j e0) (l'.getD j e0) = true from by
          by_cases e : j = i
          · rw [e]; exact h
          · exact HAll.out j (by omega))
        have HBad := Lib.hid (fun (h : sameL (l.getD i e0) (l'.getD i e0) = false) => sameLs_bad (by rw [HN.out]; exact ci) h)
        obtain ⟨E, hE⟩ : ∃ E, l.getD i e0 = E := ⟨_, rfl⟩
        obtain ⟨F, hF⟩ : ∃ F, l'.getD i e0 = F := ⟨_, rfl⟩
        obtain ⟨B1, hB1⟩ : ∃ B1, (M i).1 = B1 := ⟨_, rfl⟩
        obtain ⟨k1, hk1⟩ : ∃ k1, (M i).2 = k1 := ⟨_, rfl⟩
        obtain ⟨B2, hB2⟩ : ∃ B2, (M' i).1 = B2 := ⟨_, rfl⟩
        obtain ⟨k2, hk2⟩ : ∃ k2, (M' i).2 = k2 := ⟨_, rfl⟩
        rw [hE, hB1, hk1] at hat HS
        rw [hF, hB2, hk2] at hat' HS
        rw [hE, hF] at HGo HBad
        obtain ⟨ss, hss⟩ : ∃ ss, sameL E F = ss := ⟨_, rfl⟩
        rw [hss] at HS HGo HBad
        have hl1 : ∀ u, Only (fun _ => False) wr u → (loadVar 47 (ad.add (i * 8))).run Tryz.prog u = .ok (eval E B1 k1) u := fun u h => (hat.only h).load
        have hl2 : ∀ u, Only (fun _ => False) wr u → (loadVar 47 (ad'.add (i * 8))).run Tryz.prog u = .ok (eval F B2 k2) u := fun u h => (hat'.only h).load
        clear hE hF hB1 hk1 hB2 hk2 hss hat hat' hen hen' HAll HR HR'
        go_upto_region 6 with (fail)
        go_region_held3 (fun u => Only (fun _ => False) wr u) (first | exact (Only.refl _ _).drew | exact Only.trans' (show Only _ wr _ by assumption) (by assumption)) (first
          | (fail)
          | (go_at_call 36; refine (HS.out _ (by assumption)).mono ?_; rintro x w5 ⟨rfl, h5⟩))
        replace HU := Lib.hid (HU.out.trans' ((Only.refl _ wr).drew.trans' h5))
        cases ss with
        | true =>
          have HGo := Lib.hid (HGo.out rfl)
          go_wp2_with fail
          exact ⟨⟨i + 1, by simp, by omega, HU, HGo⟩, by simp [intOf]; omega⟩
        | false =>
          have HR0 := Lib.hid (HBad.out rfl)
          go_wp2_with fail
          go_ret
          exact ⟨by rw [HR0.out]; rfl, HU.out⟩
      · have e1 : decide ((i : Int) < (n : Int)) = false := decide_eq_false (by omega)
        have e1' : decide (i < n) = false := decide_eq_false ci
        obtain rfl : i = n := by omega
        have HR0 := Lib.hid (sameLs_all (HN.out.trans HN'.out.symm) (fun j hj => HAll.out j (by rw [← HN.out]; exact hj)))
        go_wp2_with fail
        go_ret
        exact ⟨by rw [HR0.out]; rfl, HU.out⟩
  · have HR0 := Lib.hid (sameLs_len (l := l) (m := l') (by rw [hn, hn']; exact q))
    have d1 : ((n : Int) != (n' : Int)) = true := bne_iff_ne.mpr (by omega)
    have d1' : (n != n') = true := bne_iff_ne.mpr q
    clear q hn hn' hR hR'
    go_enter Tryz.func19, Tryz.ntmps19
    go_wp2_with fail
    go_ret
    exact ⟨by rw [HR0.out]; rfl, Only.refl _ _⟩
end Go.Proofs.YtpghionmmlidnaaGreatDoor.Walks
