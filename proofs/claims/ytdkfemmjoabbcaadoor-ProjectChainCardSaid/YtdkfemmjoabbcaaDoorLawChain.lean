/- ProjectChain. -/
import Derived.Test.YtdkfemmjoabbcaaDoorTold
import Derived.Test.YtdkfemmjoabbcaaDoorOpenE
import Derived.Test.YtdkfemmjoabbcaaDoorPTm
namespace Go.Proofs.YtdkfemmjoabbcaaDoor.Walks
open Go Go.RowKit Go.Proofs.YtdkfemmjoabbcaaDoor.Aid Go.Proofs.YtdkfemmjoabbcaaDoor.Pth Go.Proofs.YtdkfemmjoabbcaaDoor.Own Go.Proofs.YtdkfemmjoabbcaaDoorW.PrintWords

theorem chain_same (E : Ent) {f g : Int} (hf : f = 1 ∨ f = 2 ∨ f = 3) (hg : g = 1 ∨ g = 2 ∨ g = 3) : (oneT (oneT E f) g).path = E.path ∧ (oneT (oneT E f) g).kind = E.kind ∧ (oneT (oneT E f) g).target = E.target ∧ (oneT (oneT E f) g).data = E.data ∧ (oneT (oneT E f) g).mode = E.mode ∧ (oneT E g).mode = E.mode := by
  have hm : ∀ F : Ent, ∀ h : Int, h = 1 ∨ h = 2 ∨ h = 3 → (oneT F h).mode = F.mode := fun F h hh => by rcases hh with rfl | rfl | rfl <;> rfl
  refine ⟨by rw [oneT_path _ hg, oneT_path _ hf], by rw [(oneT_kind _ g).1, (oneT_kind _ f).1], by rw [(oneT_kind _ g).2, (oneT_kind _ f).2], by rw [oneT_data, oneT_data], by rw [hm _ g hg, hm _ f hf], hm _ g hg⟩
theorem chain_time {E : Ent} {f g : Int} (hf : f = 1 ∨ f = 2 ∨ f = 3) (hg : g = 1 ∨ g = 2 ∨ g = 3) (h : TIn E.time) :
    (FloatKind.f64.format.order (oneT (oneT E f) g).time (oneT E g).time == some .lt || FloatKind.f64.format.order (oneT (oneT E f) g).time (oneT E g).time == some .eq) = true := by
  rw [oneT_time hg, oneT_time hf, oneT_time hg]
  obtain ⟨h1, h2⟩ := h.time_in hf
  have h3 := (h1.time_in hg).1
  have h4 := (h.time_in hg).1
  rw [ord_le h3.fnt h4.fnt]
  exact decide_eq_true (h1.mono h h2 hg)
theorem fmt3 {f : Int} (h : f = 1 ∨ f = 2 ∨ f = 3) : Fmt f := by unfold Fmt; omega
set_option maxRecDepth 100000 in
set_option maxHeartbeats 4000000 in
theorem chain_law {w : World} (E : Ent) (A : Option Addr) (c : Nat) (fa fb : Int) (hA : EntAt w E A c) (hI : EIn E) (hm : MaxLen w) :
    Calls Tryd.prog 5 #[eval E A c, .int .i64 fa, .int .i64 fb] w (BoolPost true w) := by
  have hO1 := (Only.refl (fun _ => False) w).alloc (.cells (erow E A c) 25)
  have hB1 := alloc_new w (.cells (erow E A c) 25)
  obtain ⟨g1, hg1⟩ : ∃ g1, w.heap.size = g1 := ⟨_, rfl⟩
  obtain ⟨W, hW⟩ : ∃ W, w.alloc (.cells (erow E A c) 25) = W := ⟨_, rfl⟩
  have HGW := Lib.hid (And.intro hg1 hW)
  rw [hg1, hW] at hB1
  rw [hW] at hO1
  have HO := Lib.hid hO1
  have HB := Lib.hid hB1
  have HM := Lib.hid (hm.only hO1)
  have HA := Lib.hid (hA.only hO1)
  have HI := Lib.hid hI
  obtain ⟨ra, hra⟩ : ∃ r, (IntKind.u64.wrap fa).tmod 3 = r := ⟨_, rfl⟩
  obtain ⟨rb, hrb⟩ : ∃ r, (IntKind.u64.wrap fb).tmod 3 = r := ⟨_, rfl⟩
  have hra' := hra
  have hrb' := hrb
  rw [u64_wrap, Int.tmod_eq_emod_of_nonneg (by omega)] at hra' hrb'
  have ra0 : 0 ≤ ra := by omega
  have ra1 : ra < 3 := by omega
  have rb0 : 0 ≤ rb := by omega
  have rb1 : rb < 3 := by omega
  have HOk := Lib.hid (fun h : greatL [E] = false => (small_ok h (fun F hF => by rw [List.mem_singleton.1 hF]; exact hI) E (List.mem_singleton.2 rfl)).1)
  obtain ⟨gr, hgr⟩ : ∃ gr, greatL [E] = gr := ⟨_, rfl⟩
  rw [hgr] at HOk
  have HGr := Lib.hid hgr
  obtain ⟨my, hmy⟩ : ∃ my, mayL E = my := ⟨_, rfl⟩
  have HMy := Lib.hid hmy
  clear hg1 hW hO1 hB1 hm hA hI hra' hrb' hgr hmy
  go_enter Tryd.func5, Tryd.ntmps5
  go_upto_region 1 with (fail)
  change Code.wp Tryd.prog _ _ _ (w.alloc (.cells (erow E A c) 25))
  rw [HGW.out.2, HGW.out.1]
  rcases wayT gr (ways my) with rfl | ⟨rfl, rfl | rfl⟩
  rotate_left 2
  · have HEo := Lib.hid (HOk.out rfl)
    go_upto_region 4 with (first
      | ((with_reducible refine gate 11 rfl ?_); refine load_ent rfl _ rfl rfl HB.out ?_)
      | ((with_reducible refine gate 12 rfl ?_); refine build1 rfl _ rfl (E, A, c) rfl (fun d hd => by rw [List.mem_singleton.1 hd]; exact HA.out) ?_; intro b1 w1 hr1 ho1; have HR1 := Lib.hid hr1; have HO1 := Lib.hid ho1; clear hr1 ho1)
      | (go_at_call 8; have q := great_any (l := [E]) (n := 1) (c := 1) rfl (by decide) HR1.out (fun F hF => by rw [List.mem_singleton.1 hF]; exact HI.out); rw [HGr.out] at q; (with_reducible refine q.mono ?_); clear q; rintro x w2 ⟨rfl, hw⟩; obtain rfl := hw.symm)
      | ((with_reducible refine gate 15 rfl ?_); (refine gate_guard (by rfl) ?_; dsimp only); refine load_ent rfl _ rfl rfl (HO1.out.keeps HB.out id) ?_)
      | (go_at_call 13; have q := rmay_any E A c w1 HEo.out; rw [HMy.out] at q; (with_reducible refine q.mono ?_); clear q; rintro x w2 ⟨rfl, ho2⟩; have HO2 := Lib.hid (HO1.out.trans' ho2); clear ho2))
    have hF3 : 1 + ra = 1 ∨ 1 + ra = 2 ∨ 1 + ra = 3 := by omega
    have hG3 : 1 + rb = 1 ∨ 1 + rb = 2 ∨ 1 + rb = 3 := by omega
    obtain ⟨F, hF⟩ : ∃ F, 1 + ra = F := ⟨_, rfl⟩
    obtain ⟨G, hG⟩ : ∃ G, 1 + rb = G := ⟨_, rfl⟩
    rw [hF] at hF3 ⊢
    rw [hG] at hG3 ⊢
    clear hF hG ra0 ra1 rb0 rb1 hra hrb HOk HR1 HO1 HMy HGr
    obtain ⟨e0', e1', e6', e7', e2', y2'⟩ := chain_same E hF3 hG3
    have HTm := Lib.hid (fun h => chain_time (E := E) hF3 hG3 h)
    have HSm := Lib.hid (show F = G → oneT (oneT E F) G = oneT E G from fun h => by rw [h]; exact oneT_twice E (fmt3 hG3))
    have HE1 := Lib.hid (oneT_ok (fmt3 hF3) HEo.out)
    have HY7 := Lib.hid (oneT_data E G)
    obtain ⟨E1, hE1⟩ : ∃ E1, oneT E F = E1 := ⟨_, rfl⟩
    rw [hE1] at e0' e1' e6' e7' e2' HTm HSm HE1
    have HC1 := Lib.hid (fun u (h : Only (fun _ => False) W u) => onep_any E A c F u HEo.out (HM.out.only h) (HA.out.only h))
    have HC3 := Lib.hid (fun u (h : Only (fun _ => False) W u) => onep_any E A c G u HEo.out (HM.out.only h) (HA.out.only h))
    rw [hE1] at HC1
    have HC2 := Lib.hid (fun u (h : Only (fun _ => False) W u) A4 k4 (ha : EntAt u E1 A4 k4) => onep_any E1 A4 k4 G u HE1.out (HM.out.only h) ha)
    obtain ⟨X, hX⟩ : ∃ X, oneT E1 G = X := ⟨_, rfl⟩
    obtain ⟨Y, hY⟩ : ∃ Y, oneT E G = Y := ⟨_, rfl⟩
    rw [hX] at e0' e1' e6' e7' e2' HTm HSm HC2
    rw [hY] at y2' HTm HSm HC3 HY7
    clear hX hY hE1 hF3 hG3
    go_upto_region 5 with (first
      | ((with_reducible refine gate 30 rfl ?_); refine load_ent rfl _ rfl rfl (HO2.out.keeps HB.out id) ?_)
      | (go_at_call 10
         first
           | ((with_reducible refine (HC1.out _ HO2.out).mono ?_); rintro x w3 ⟨A3, k3, rfl, h3, ho3, hnw⟩; clear hnw; have HE3 := Lib.hid h3; have HO3 := Lib.hid (HO2.out.trans' ho3); clear h3 ho3)
           | ((with_reducible refine (HC2.out _ HO3.out A3 k3 HE3.out).mono ?_); rintro x w4 ⟨A4, k4, rfl, h4, ho4, hnw⟩; clear hnw; have HE4 := Lib.hid h4; have HO4 := Lib.hid (HO3.out.trans' ho4); clear h4 ho4))
      | ((with_reducible refine gate_store 25 rfl ?_); refine store_newE rfl rfl X A4 k4 _ _ rfl rfl rfl ?_; intro w5 hb5 ho5; have HB5 := Lib.hid hb5; have HX5 := Lib.hid (HE4.out.only ho5); have HO5 := Lib.hid (HO4.out.trans' ho5); clear hb5 ho5))
    obtain ⟨gx, hgx⟩ : ∃ gx, w4.heap.size = gx := ⟨_, rfl⟩
    rw [hgx] at HB5 ⊢
    go_upto_region 6 with (first
      | ((with_reducible refine gate 35 rfl ?_); refine load_ent rfl _ rfl rfl (HO5.out.keeps HB.out id) ?_)
      | (go_at_call 10; (with_reducible refine (HC3.out _ HO5.out).mono ?_); rintro x w6 ⟨A6, k6, rfl, h6, ho6, hnw⟩; clear hnw; have HE6 := Lib.hid h6; have HO6 := Lib.hid (HO5.out.trans' ho6); have HB6 := Lib.hid (ho6.keeps HB5.out id); have HX6 := Lib.hid (HX5.out.only ho6); clear h6 ho6)
      | ((with_reducible refine gate_store 25 rfl ?_); refine store_newE rfl rfl Y A6 k6 _ _ rfl rfl rfl ?_; intro w7 hb7 ho7; have HBy := Lib.hid hb7; have HBx := Lib.hid (ho7.keeps HB6.out id); have HXa := Lib.hid (HX6.out.only ho7); have HYa := Lib.hid (HE6.out.only ho7); have HO7 := Lib.hid (HO6.out.trans' ho7); clear hb7 ho7))
    obtain ⟨gy, hgy⟩ : ∃ gy, w6.heap.size = gy := ⟨_, rfl⟩
    rw [hgy] at HBy ⊢
    have HBe := Lib.hid (HO7.out.keeps HB.out id)
    have HEa := Lib.hid (HA.out.only HO7.out)
    clear HC1 HC2 HC3 HE1 HE3 HE4 HX5 HX6 HE6 HO2 HO3 HO4 HO5 HO6 HB5 HB6 hgx hgy
    clear w1 w2 w3 w4 w5 w6
    have c0 : w7.cell? ⟨g1, 0, none⟩ = some (.string (B E.path)) := Joins.cell_of_block HBe.out 0
    have c1 : w7.cell? ⟨g1, 1, none⟩ = some (.int .i64 E.kind) := Joins.cell_of_block HBe.out 1
    have c2 : w7.cell? ⟨g1, 2, none⟩ = some (.int .i64 E.mode) := Joins.cell_of_block HBe.out 2
    have c5 : w7.cell? ⟨g1, 5, none⟩ = some (.float .f64 E.time) := Joins.cell_of_block HBe.out 5
    have c6 : w7.cell? ⟨g1, 6, none⟩ = some (.string (B E.target)) := Joins.cell_of_block HBe.out 6
    have c7 : w7.cell? ⟨g1, 7, none⟩ = some (.slice A E.data.length c) := Joins.cell_of_block HBe.out 7
    have d0 : w7.cell? ⟨gx, 0, none⟩ = some (.string (B E.path)) := by rw [← e0']; exact Joins.cell_of_block HBx.out 0
    have d1 : w7.cell? ⟨gx, 1, none⟩ = some (.int .i64 E.kind) := by rw [← e1']; exact Joins.cell_of_block HBx.out 1
    have d2 : w7.cell? ⟨gx, 2, none⟩ = some (.int .i64 E.mode) := by rw [← e2']; exact Joins.cell_of_block HBx.out 2
    have d5 : w7.cell? ⟨gx, 5, none⟩ = some (.float .f64 X.time) := Joins.cell_of_block HBx.out 5
    have d6 : w7.cell? ⟨gx, 6, none⟩ = some (.string (B E.target)) := by rw [← e6']; exact Joins.cell_of_block HBx.out 6
    have d7 : w7.cell? ⟨gx, 7, none⟩ = some (.slice A4 E.data.length k4) := by rw [← e7']; exact Joins.cell_of_block HBx.out 7
    have y2 : w7.cell? ⟨gy, 2, none⟩ = some (.int .i64 E.mode) := by rw [← y2']; exact Joins.cell_of_block HBy.out 2
    have y5 : w7.cell? ⟨gy, 5, none⟩ = some (.float .f64 Y.time) := Joins.cell_of_block HBy.out 5
    have v1 := str_u c HEa.out.1 rfl
    have v2 := str_u k4 HXa.out.1 rfl
    rw [e7'] at v2
    obtain ⟨n, hn⟩ : ∃ n, E.data.length = n := ⟨_, rfl⟩
    rw [hn] at c7 d7 v1 v2
    obtain ⟨S0, hS0⟩ : ∃ S0, B E.path = S0 := ⟨_, rfl⟩
    obtain ⟨S6, hS6⟩ : ∃ S6, B E.target = S6 := ⟨_, rfl⟩
    obtain ⟨S7, hS7⟩ : ∃ S7, B E.data = S7 := ⟨_, rfl⟩
    rw [hS0] at c0 d0
    rw [hS6] at c6 d6
    rw [hS7] at v1 v2
    have q0 : (S0.toList != S0.toList) = false := by simp
    have q6 : (S6.toList != S6.toList) = false := by simp
    have q7 : (S7.toList != S7.toList) = false := by simp
    have q0' : (S0.toList == S0.toList) = true := by simp
    have q6' : (S6.toList == S6.toList) = true := by simp
    have q7' : (S7.toList == S7.toList) = true := by simp
    have q1 : (E.kind != E.kind) = false := by simp
    have q2 : (E.mode != E.mode) = false := by simp
    have HXs := Lib.hid (fun h : F = G => by have := HSm.out h; exact this)
    clear e0' e1' e2' e6' e7' y2' hn hS0 hS6 hS7 HBe HEa HSm
    go_upto_region 8 with (fail)
    clear c0 c1 c2 c6 c7 d0 d1 d2 d6 d7 y2 v1 v2 q0 q6 q7 q0' q6' q7' q1 q2 HY7
    have g1F := dec_bne F G
    obtain ⟨t1, ht1⟩ : ∃ b : Bool, (FloatKind.f64.format.order E.time 4734073370679705600 == some .gt || FloatKind.f64.format.order E.time 4734073370679705600 == some .eq) = b := ⟨_, rfl⟩
    obtain ⟨t2, ht2⟩ : ∃ b : Bool, (FloatKind.f64.format.order E.time 4751297606873776128 == some .lt) = b := ⟨_, rfl⟩
    have HT1 := Lib.hid ht1
    have HT2 := Lib.hid ht2
    have hxy : t1 = true → t2 = true → (FloatKind.f64.format.order X.time Y.time == some .lt || FloatKind.f64.format.order X.time Y.time == some .eq) = true := fun h1 h2 => HTm.out (tin_of (ht1.trans h1) (ht2.trans h2))
    replace hxy := Lib.hid hxy
    have HTo := Lib.hid (fun u (h : Only (fun _ => False) w7 u) => told_any u (HM.out.only (HO7.out.trans' h)))
    have HSa := Lib.hid (fun u (h : Only (fun _ => False) w7 u) => rsame_any (HXa.out.only h) (HYa.out.only h))
    rcases way t1 (ways t2) with rfl | ⟨rfl, rfl | rfl⟩
    all_goals
      try (have hxy2 := hxy.out rfl rfl)
      clear HTm hxy
      go_upto_region 10 with (fail)
      by_cases hFG : F = G
      · rw [decide_eq_true hFG] at g1F
        rw [HXs.out hFG] at HSa HBx
        rw [sameL_of (EqT.rfl' Y)] at HSa
        clear hFG
        go_wp2_with (first
          | (go_at_call 9; (with_reducible refine (HTo.out _ (Only.refl _ _)).mono ?_); rintro x w8 ⟨rfl, ho8⟩; have HO8 := Lib.hid ho8; clear ho8)
          | ((with_reducible refine gate 102 rfl ?_); (refine gate_guard (by rfl) ?_; dsimp only); refine load_ent rfl _ rfl rfl (HO8.out.keeps HBx.out id) ?_)
          | ((with_reducible refine gate 103 rfl ?_); (refine gate_guard (by rfl) ?_; dsimp only); refine load_ent rfl _ rfl rfl (HO8.out.keeps HBy.out id) ?_)
          | (go_at_call 14; (with_reducible refine (HSa.out _ HO8.out).mono ?_); rintro x w9 ⟨rfl, ho9⟩; have HO9 := Lib.hid (HO8.out.trans' ho9); clear ho9))
        go_ret
        exact ⟨rfl, (HO.out.trans' HO7.out).trans' HO9.out⟩
      · rw [decide_eq_false hFG] at g1F
        clear hFG
        go_wp2_with (first
          | (go_at_call 9; (with_reducible refine (HTo.out _ (Only.refl _ _)).mono ?_); rintro x w8 ⟨rfl, ho8⟩; have HO8 := Lib.hid ho8; clear ho8))
        go_ret
        exact ⟨rfl, (HO.out.trans' HO7.out).trans' HO8.out⟩
  · clear ra0 ra1 rb0 rb1 hra hrb HOk HMy
    go_wp2_with (first
      | ((with_reducible refine gate 11 rfl ?_); refine load_ent rfl _ rfl rfl HB.out ?_)
      | ((with_reducible refine gate 12 rfl ?_); refine build1 rfl _ rfl (E, A, c) rfl (fun d hd => by rw [List.mem_singleton.1 hd]; exact HA.out) ?_; intro b1 w1 hr1 ho1; have HR1 := Lib.hid hr1; have HO1 := Lib.hid ho1; clear hr1 ho1)
      | (go_at_call 8; have q := great_any (l := [E]) (n := 1) (c := 1) rfl (by decide) HR1.out (fun F hF => by rw [List.mem_singleton.1 hF]; exact HI.out); rw [HGr.out] at q; (with_reducible refine q.mono ?_); clear q; rintro x w2 ⟨rfl, hw⟩; obtain rfl := hw.symm)
      | (go_at_call 9; (with_reducible refine (told_any _ (HM.out.only HO1.out)).mono ?_); rintro x w8 ⟨rfl, ho8⟩; have HO8 := Lib.hid (HO1.out.trans' ho8); clear ho8))
    go_ret
    exact ⟨rfl, HO.out.trans' HO8.out⟩
  · have HEo := Lib.hid (HOk.out rfl)
    clear ra0 ra1 rb0 rb1 hra hrb HOk
    go_wp2_with (first
      | ((with_reducible refine gate 11 rfl ?_); refine load_ent rfl _ rfl rfl HB.out ?_)
      | ((with_reducible refine gate 12 rfl ?_); refine build1 rfl _ rfl (E, A, c) rfl (fun d hd => by rw [List.mem_singleton.1 hd]; exact HA.out) ?_; intro b1 w1 hr1 ho1; have HR1 := Lib.hid hr1; have HO1 := Lib.hid ho1; clear hr1 ho1)
      | (go_at_call 8; have q := great_any (l := [E]) (n := 1) (c := 1) rfl (by decide) HR1.out (fun F hF => by rw [List.mem_singleton.1 hF]; exact HI.out); rw [HGr.out] at q; (with_reducible refine q.mono ?_); clear q; rintro x w2 ⟨rfl, hw⟩; obtain rfl := hw.symm)
      | ((with_reducible refine gate 15 rfl ?_); (refine gate_guard (by rfl) ?_; dsimp only); refine load_ent rfl _ rfl rfl (HO1.out.keeps HB.out id) ?_)
      | (go_at_call 13; have q := rmay_any E A c w1 HEo.out; rw [HMy.out] at q; (with_reducible refine q.mono ?_); clear q; rintro x w2 ⟨rfl, ho2⟩; have HO2 := Lib.hid (HO1.out.trans' ho2); clear ho2)
      | (go_at_call 9; (with_reducible refine (told_any _ (HM.out.only HO2.out)).mono ?_); rintro x w8 ⟨rfl, ho8⟩; have HO8 := Lib.hid (HO2.out.trans' ho8); clear ho8))
    go_ret
    exact ⟨rfl, HO.out.trans' HO8.out⟩
theorem lawChain {H : Type} {enc : TypeId × Value → H} {W : World} {base : Nat} {v0 v1 v2 : Value} {d0 d1 d2 : DataW H} {p0 p1 p2 : List MemPlace} {ts : List TypeId} {ds : List (DataW H)} (hm : MaxLen W)
    (ov0 : Value.okWide Tryd.prog W .any base 25 v0) (k0 : DataW.Trod enc Tryd.prog W 0 (fun _ => true) true 25 v0 d0 p0)
    (ov1 : Value.okWide Tryd.prog W .any base 3 v1) (k1 : DataW.Trod enc Tryd.prog W 0 (fun _ => true) true 3 v1 d1 p1)
    (ov2 : Value.okWide Tryd.prog W .any base 3 v2) (k2 : DataW.Trod enc Tryd.prog W 0 (fun _ => true) true 3 v2 d2 p2)
    (_ : (DataW.weightsEach Tryd.prog ts ds).all (· ≤ reachBytes) = true) :
    Calls Tryd.prog 5 #[v0, v1, v2] W fun e w' => e = .returned (.bool true) ∧ Below W.heap.size W w' := by
  obtain ⟨E, A, c, rfl, hA, hI⟩ := open_ent ov0 k0
  obtain ⟨n1, rfl, _, _, _⟩ := Go.ChangeShapes.open_int Tryd.underlying3 ov1 k1
  obtain ⟨n2, rfl, _, _, _⟩ := Go.ChangeShapes.open_int Tryd.underlying3 ov2 k2
  exact (chain_law E A c n1 n2 hA hI hm).mono fun x w' h => ⟨h.1, h.2.none⟩
end Go.Proofs.YtdkfemmjoabbcaaDoor.Walks
