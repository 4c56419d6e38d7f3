/- Contract of the law's told. -/
import Derived.Test.YtihcdecdkpbpmaaDoorTree
import Derived.Test.YtihcdecdkpbpmaaDoorSameQ
import Derived.Test.YtihcdecdkpbpmaaDoorNon
namespace Go.Proofs.YtihcdecdkpbpmaaDoor.Walks
open Go Go.RowKit Go.Proofs.YtihcdecdkpbpmaaDoor.Aid Go.Proofs.YtihcdecdkpbpmaaDoor.Pth Go.Proofs.YtihcdecdkpbpmaaDoor.Own Go.Proofs.YtihcdecdkpbpmaaDoorW.PrintWords

def eF (b : Nat) : Ent := ⟨[97, 47, 98], 1, 0, 0, 0, b, [], []⟩
def eH : Ent := ⟨[99], 4, 0, 0, 0, 0, [97, 47, 98], []⟩
def eX : Ent := ⟨[46, 46, 47, 97], 1, 0, 0, 0, 0, [], []⟩
theorem tSame_refl (a : Nat) : tSame a a = true := by
  unfold tSame isN
  cases h : (FloatKind.f64.format.order a a == some .eq) with
  | true => rfl
  | false =>
    have : (FloatKind.f64.format.order a a != some .eq) = true := by rw [bne, h]; rfl
    rw [this]; rfl
theorem sameL_refl (E : Ent) : sameL E E = true := by
  unfold sameL
  rw [tSame_refl]
  simp
theorem mayF (b : Nat) : mayL (eF b) = true := by kernel_rfl
theorem mayX : mayL eX = false := by kernel_rfl
theorem listF (b : Nat) : listL [eF b, eH] = -1 := by kernel_rfl
theorem listH : listL [eH] = 0 := by kernel_rfl
theorem okF (b : Nat) : EOk (eF b) := ⟨by show 3 ≤ 500000; decide, by show 0 ≤ 500000; decide, by show 0 ≤ 1000000; decide⟩
theorem okH : EOk eH := ⟨by decide, by decide, by decide⟩
theorem okX : EOk eX := ⟨by decide, by decide, by decide⟩
theorem pathsF (b : Nat) : pathsL [eF b] = [[[97], [98]]] := by kernel_rfl
theorem esF (b : Nat) : EsOk [eF b, eH] := fun E hE => by
  rcases List.mem_cons.1 hE with rfl | hE
  · exact ⟨okF b, by show -9223372036854775808 ≤ (1 : Int); decide, by show (1 : Int) ≤ _; decide⟩
  · rw [List.mem_singleton.1 hE]; exact ⟨okH, by show -9223372036854775808 ≤ (4 : Int); decide, by show (4 : Int) ≤ _; decide⟩
theorem esH : EsOk [eH] := fun E hE => by
  rw [List.mem_singleton.1 hE]; exact ⟨okH, by show -9223372036854775808 ≤ (4 : Int); decide, by show (4 : Int) ≤ _; decide⟩
/-- The tree of "a/b" alone. -/
theorem tree_ab {U : Nat → Prop} {w : World} {v : Value} (h : TreeIn U [[[97], [98]]] 6001 [] w v) : ∃ ad c A k, v = .slice (some ad) 1 c ∧ w.cell? ad = some (.string ⟨#[97]⟩) ∧ w.cell? (ad.add 1) = some (.int .i64 (-1)) ∧ w.cell? (ad.add 2) = some (.slice A 1 k) := by
  obtain ⟨ns, ⟨A, c, rfl, hc⟩, hn, hs⟩ := h
  have e1 : kidN [[[97], [98]]] [] = [[97]] := by kernel_rfl
  rw [e1] at hn
  obtain ⟨N, rfl⟩ : ∃ N, ns = [N] := by
    have hlen := congrArg List.length hn
    rw [List.length_map] at hlen
    match ns, hlen with
    | [N], _ => exact ⟨N, rfl⟩
  · have hN : N.name = [97] := by simpa using hn
    obtain ⟨ad, rfl, _, hcell⟩ := hc 0 N rfl
    obtain ⟨g1, g2⟩ := hs N (List.mem_singleton.2 rfl)
    rw [hN] at g1 g2
    have e2 : entN [[[97], [98]]] ([] ++ [[97]]) = -1 := by kernel_rfl
    rw [e2] at g1
    obtain ⟨ms, ⟨A2, c2, e3, _⟩, hm, _⟩ := g2
    have e4 : kidN [[[97], [98]]] ([] ++ [[97]]) = [[98]] := by kernel_rfl
    rw [e4] at hm
    have hl : ms.length = 1 := by have := congrArg List.length hm; simpa using this
    have hk : N.n = 1 := by
      unfold Nd.kids at e3
      injection e3 with _ e5 _
      rw [e5, hl]
    have h0 := hcell 0 (.string (B N.name)) rfl
    have h1 := hcell 1 (.int .i64 N.ent) rfl
    have h2 := hcell 2 (.slice N.A N.n N.c) rfl
    rw [hN] at h0
    rw [g1] at h1
    rw [hk] at h2
    have z : ad.add (0 * 3 + 0) = ad := by unfold Addr.add; simp
    rw [z] at h0
    exact ⟨ad, c, N.A, N.c, rfl, h0, h1, h2⟩
theorem datas2 (w : World) (b : Nat) : ∀ d ∈ [((eF b, none, 0) : Ent3), (eH, none, 0)], EntAt w d.1 d.2.1 d.2.2 := fun d hd => by
  rcases List.mem_cons.1 hd with rfl | hd
  · exact ⟨RdU.nil _ _, Nat.le_refl _⟩
  · rw [List.mem_singleton.1 hd]; exact ⟨RdU.nil _ _, Nat.le_refl _⟩
theorem datas1 (w : World) : ∀ d ∈ [((eH, none, 0) : Ent3)], EntAt w d.1 d.2.1 d.2.2 := fun d hd => by
  rw [List.mem_singleton.1 hd]; exact ⟨RdU.nil _ _, Nat.le_refl _⟩
attribute [-go_sem] loadVar
attribute [local go_sem] lv9 lv3 lvN
set_option maxRecDepth 100000 in
set_option maxHeartbeats 4000000 in
theorem told20_any (w : World) (hm : MaxLen w) : Calls Tryd.prog 9 #[] w (BoolPost true w) := by
  have HM := Lib.hid hm
  have HNo := Lib.hid (rnone_any w)
  clear hm
  go_enter Tryd.func9, Tryd.ntmps9
  go_upto_region 2 with (first
    | (go_at_call 26; refine HNo.out.mono ?_; rintro x w0 ⟨b, rfl, _, ho0⟩; have HO0 := Lib.hid ho0; clear ho0)
    | ((with_reducible refine gate_store 32 rfl ?_); refine store_newE rfl rfl (eF b) none 0 _ _ rfl rfl rfl ?_; intro w1 hb1 ho1; have HB1 := Lib.hid hb1; have HO1 := Lib.hid (HO0.out.trans' ho1); clear hb1 ho1))
  obtain ⟨g1, hg1⟩ : ∃ g1, w0.heap.size = g1 := ⟨_, rfl⟩
  rw [hg1] at HB1 ⊢
  clear hg1 HO0 HNo
  clear w0
  go_upto_region 3 with ((with_reducible refine gate_store 32 rfl ?_); refine store_newE rfl rfl eH none 0 _ _ rfl rfl rfl ?_; intro w2 hb2 ho2; have HB2 := Lib.hid hb2; have HO2 := Lib.hid (HO1.out.trans' ho2); have HB3 := Lib.hid (ho2.keeps HB1.out id); clear hb2 ho2)
  obtain ⟨g2, hg2⟩ : ∃ g2, w1.heap.size = g2 := ⟨_, rfl⟩
  rw [hg2] at HB2 ⊢
  clear hg2 HO1 HB1
  clear w1
  have HTr := Lib.hid (fun (u : World) (A : Option Addr) (M : Nat → Option Addr × Nat) (h : Only (fun _ => False) w u) (hR : RdE u A [eF b] M) => tree_any (n := 1) (c := 1) (l := [eF b]) rfl (show 1 ≤ 12 by decide) hR (fun E hE => by rw [List.mem_singleton.1 hE]; show 3 ≤ 5000; decide) (HM.out.only h))
  rw [pathsF] at HTr
  go_upto_region 4 with (first
    | ((with_reducible refine gate 7 rfl ?_); refine load_ent rfl _ rfl rfl HB3.out ?_)
    | ((with_reducible refine gate 8 rfl ?_); refine build1 rfl _ rfl (eF b, none, 0) rfl (fun d hd => by rw [List.mem_singleton.1 hd]; exact ⟨RdU.nil _ _, Nat.le_refl _⟩) ?_; intro b3 w3 hr3 ho3; have HR3 := Lib.hid hr3; have HO3 := Lib.hid (HO2.out.trans' ho3); have HB4 := Lib.hid (ho3.keeps HB2.out id); have HB5 := Lib.hid (ho3.keeps HB3.out id); clear hr3 ho3)
    | (go_at_call 10; refine (HTr.out _ _ _ HO3.out HR3.out).mono ?_; rintro x w4 ⟨v4, rfl, ht4, ho4⟩; have HT4 := Lib.hid (tree_ab ht4); have HO4 := Lib.hid (HO3.out.trans' ho4); have HB6 := Lib.hid (ho4.keeps HB4.out id); have HB7 := Lib.hid (ho4.keeps HB5.out id); clear ht4 ho4))
  obtain ⟨ad, c4, A4, k4, rfl, q0, q1, q2⟩ := HT4.out
  have Q0 := Lib.hid q0
  have Q1 := Lib.hid q1
  have Q2 := Lib.hid q2
  have HMF := Lib.hid (fun u (h : Only (fun _ => False) w u) => may_any (eF b) none 0 u (okF b) (HM.out.only h))
  rw [mayF] at HMF
  have HMX := Lib.hid (fun u (h : Only (fun _ => False) w u) => may_any eX none 0 u okX (HM.out.only h))
  rw [mayX] at HMX
  have HSa := Lib.hid (fun u => same_any (E := eF b) (F := eF b) (A := none) (A' := none) (c := 0) (c' := 0) (w := u) ⟨RdU.nil _ _, Nat.le_refl _⟩ ⟨RdU.nil _ _, Nat.le_refl _⟩)
  rw [sameL_refl] at HSa
  have HL1 := Lib.hid (fun (u : World) (A : Option Addr) (M : Nat → Option Addr × Nat) (h : Only (fun _ => False) w u) (hR : RdE u A [eF b, eH] M) => list_any (n := 2) (c := 2) (l := [eF b, eH]) rfl (show 2 ≤ 100000 by decide) hR (esF b) (HM.out.only h))
  rw [listF] at HL1
  have HL2 := Lib.hid (fun (u : World) (A : Option Addr) (M : Nat → Option Addr × Nat) (h : Only (fun _ => False) w u) (hR : RdE u A [eH] M) => list_any (n := 1) (c := 1) (l := [eH]) rfl (show 1 ≤ 100000 by decide) hR esH (HM.out.only h))
  rw [listH] at HL2
  clear q0 q1 q2 HT4 HTr HO3 HB4 HB5 HO2 HB2 HB3
  go_wp2_with (first
    | ((with_reducible refine gate 10 rfl ?_); refine load_ent rfl _ rfl rfl HB7.out ?_)
    | (go_at_call 15; (first
        | ((with_reducible refine (HMF.out _ HO4.out).mono ?_); rintro x w5 ⟨rfl, ho5⟩; have HO5 := Lib.hid (HO4.out.trans' ho5); have HP5 := Lib.hid ho5; clear ho5)
        | (refine (HMX.out _ HO5.out).mono ?_; rintro x w6 ⟨rfl, ho6⟩; have HO6 := Lib.hid (HO5.out.trans' ho6); have HP6 := Lib.hid (HP5.out.trans' ho6); clear ho6)))
    | ((with_reducible refine gate 18 rfl ?_); (refine gate_guard (by rfl) ?_; dsimp only); refine load_ent rfl _ rfl rfl (HP6.out.keeps HB7.out id) ?_)
    | ((with_reducible refine gate 19 rfl ?_); (refine gate_guard (by rfl) ?_; dsimp only); refine load_ent rfl _ rfl rfl (HP6.out.keeps HB7.out id) ?_)
    | (go_at_call 14; refine (HSa.out _).mono ?_; rintro x w7 ⟨rfl, ho7⟩; have HO7 := Lib.hid (HO6.out.trans' ho7); have HP7 := Lib.hid (HP6.out.trans' ho7); clear ho7)
    | ((with_reducible refine gate 23 rfl ?_); (refine gate_guard (by rfl) ?_; dsimp only); refine load_ent rfl _ rfl rfl (HP7.out.keeps HB7.out id) ?_)
    | ((with_reducible refine gate 24 rfl ?_); (refine gate_guard (by rfl) ?_; dsimp only); refine load_ent rfl _ rfl rfl (HP7.out.keeps HB6.out id) ?_)
    | ((with_reducible refine gate 25 rfl ?_); (refine gate_guard (by rfl) ?_; dsimp only); refine build2 rfl _ _ rfl (eF b, none, 0) (eH, none, 0) rfl rfl (datas2 w7 b) ?_; intro b8 w8 hr8 ho8; have HR8 := Lib.hid hr8; have HO8 := Lib.hid (HO7.out.trans' ho8); have HP8 := Lib.hid (HP7.out.trans' ho8); clear hr8 ho8)
    | (go_at_call 16; (first
        | ((with_reducible refine (HL1.out _ _ _ HO8.out HR8.out).mono ?_); rintro x w9 ⟨rfl, ho9⟩; have HO9 := Lib.hid (HO8.out.trans' ho9); have HP9 := Lib.hid (HP8.out.trans' ho9); clear ho9)
        | ((with_reducible refine (HL2.out _ _ _ HO10.out HR10.out).mono ?_); rintro x w11 ⟨rfl, ho11⟩; have HO11 := Lib.hid (HO10.out.trans' ho11); have HP11 := Lib.hid (HP10.out.trans' ho11); have q0 := HP11.out.cell Q0.out id; have q1 : w11.cell? ⟨ad.block, ad.off + 1, none⟩ = some (.int .i64 (-1)) := HP11.out.cell Q1.out id; have q2 : w11.cell? ⟨ad.block, ad.off + 2, none⟩ = some (.slice A4 1 k4) := HP11.out.cell Q2.out id; clear ho11)))
    | ((with_reducible refine gate 30 rfl ?_); (refine gate_guard (by rfl) ?_; dsimp only); refine load_ent rfl _ rfl rfl (HP9.out.keeps HB6.out id) ?_)
    | ((with_reducible refine gate 31 rfl ?_); (refine gate_guard (by rfl) ?_; dsimp only); refine build1 rfl _ rfl (eH, none, 0) rfl (datas1 w9) ?_; intro b10 w10 hr10 ho10; have HR10 := Lib.hid hr10; have HO10 := Lib.hid (HO9.out.trans' ho10); have HP10 := Lib.hid (HP9.out.trans' ho10); clear hr10 ho10)
    | (fail))
  go_ret
  exact ⟨rfl, HO11.out⟩
end Go.Proofs.YtihcdecdkpbpmaaDoor.Walks
