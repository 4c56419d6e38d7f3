/- ProjectTimes. -/
import Derived.Test.YtdkfemmjoabbcaaDoorTold
import Derived.Test.YtdkfemmjoabbcaaDoorOpenE
import Derived.Test.YtdkfemmjoabbcaaDoorPTs
namespace Go.Proofs.YtdkfemmjoabbcaaDoor.Walks
open Go Go.RowKit Go.Proofs.YtdkfemmjoabbcaaDoor.Aid Go.Proofs.YtdkfemmjoabbcaaDoor.Pth Go.Proofs.YtdkfemmjoabbcaaDoor.Own Go.Proofs.YtdkfemmjoabbcaaDoorW.PrintWords

theorem oneT9 (E : Ent) : oneT E 9 = E := by
  rw [oneT_def, if_neg (by decide), if_neg (by decide), if_neg (by decide), if_neg (by decide), if_neg (by decide)]
theorem and1023_i64 (x : Int) : Go.bits .and .i64 x 1023 = x % 1024 := mask_any stays_i64 (i := 10) (by decide) x
attribute [local go_sem] run_store_float
set_option maxRecDepth 100000 in
set_option maxHeartbeats 4000000 in
theorem times_law {w : World} (E0 : Ent) (A : Option Addr) (c : Nat) (fa fb : Int) (hA : EntAt w E0 A c) (hI : EIn E0) (hm : MaxLen w) :
    Calls Tryd.prog 3 #[eval E0 A c, .int .i64 fa, .int .i64 fb] w (BoolPost true w) := by
  have hO1 := (Only.refl (fun _ => False) w).alloc (.cells (erow E0 A c) 25)
  have hB1 := alloc_new w (.cells (erow E0 A c) 25)
  obtain ⟨g1, hg1⟩ : ∃ g1, w.heap.size = g1 := ⟨_, rfl⟩
  obtain ⟨W, hW⟩ : ∃ W, w.alloc (.cells (erow E0 A c) 25) = W := ⟨_, rfl⟩
  have HGW := Lib.hid (And.intro hg1 hW)
  rw [hg1, hW] at hB1
  rw [hW] at hO1
  have HO := Lib.hid hO1
  have HB := Lib.hid hB1
  have HM := Lib.hid (hm.only hO1)
  have HMw := Lib.hid hm
  have HA := Lib.hid (hA.only hO1)
  have HAw := Lib.hid hA
  have HI := Lib.hid hI
  have HGe := Lib.hid (show w.heap.size ≤ g1 by omega)
  obtain ⟨s, hs⟩ : ∃ r, (IntKind.u64.wrap fa).tmod 3900000000 = r := ⟨_, rfl⟩
  have hs' := hs
  rw [u64_wrap, Int.tmod_eq_emod_of_nonneg (by omega)] at hs'
  have s0 : 0 ≤ s := by omega
  have s1 : s < 3900000000 := by omega
  obtain ⟨p, hp⟩ : ∃ p, Go.bits .and .i64 fb 1023 = p := ⟨_, rfl⟩
  have hp' := hp
  rw [and1023_i64] at hp'
  have p0 : 0 ≤ p := by omega
  have p1 : p < 1024 := by omega
  have HOk := Lib.hid (fun h : greatL [E0] = false => (small_ok h (fun F hF => by rw [List.mem_singleton.1 hF]; exact hI) E0 (List.mem_singleton.2 rfl)).1)
  obtain ⟨gr, hgr⟩ : ∃ gr, greatL [E0] = gr := ⟨_, rfl⟩
  rw [hgr] at HOk
  have HGr := Lib.hid hgr
  clear hg1 hW hO1 hB1 hm hA hI hs' hp' hgr
  go_enter Tryd.func3, Tryd.ntmps3
  go_upto_region 1 with (fail)
  change Code.wp Tryd.prog _ _ _ (w.alloc (.cells (erow E0 A c) 25))
  rw [HGW.out.2, HGW.out.1]
  cases gr with
  | true =>
    clear s0 s1 p0 p1 hs hp HOk
    go_wp2_with (first
      | ((with_reducible refine gate 12 rfl ?_); refine load_ent rfl _ rfl rfl HB.out ?_)
      | ((with_reducible refine gate 13 rfl ?_); refine build1 rfl _ rfl (E0, A, c) rfl (fun d hd => by rw [List.mem_singleton.1 hd]; exact HA.out) ?_; intro b1 w1 hr1 ho1; have HR1 := Lib.hid hr1; have HO1 := Lib.hid ho1; clear hr1 ho1)
      | (go_at_call 8; have q := great_any (l := [E0]) (n := 1) (c := 1) rfl (by decide) HR1.out (fun F hF => by rw [List.mem_singleton.1 hF]; exact HI.out); rw [HGr.out] at q; (with_reducible refine q.mono ?_); clear q; rintro x w2 ⟨rfl, hw⟩; obtain rfl := hw.symm)
      | (go_at_call 9; (with_reducible refine (told_any _ (HM.out.only HO1.out)).mono ?_); rintro x w8 ⟨rfl, ho8⟩; have HO8 := Lib.hid (HO1.out.trans' ho8); clear ho8))
    go_ret
    exact ⟨rfl, HO.out.trans' HO8.out⟩
  | false =>
    have HEo := Lib.hid (HOk.out rfl)
    have HA0 := Lib.hid (show 315532800 ≤ 315532800 + s ∧ 315532800 + s < 4294967295 ∧ 0 ≤ p ∧ p < 1024 by omega)
    have hadd := add_tm HA0.out.1 HA0.out.2.1 p0 p1
    have hdiv := div_1024 p0 p1
    obtain ⟨T, hT⟩ : ∃ T, tmW (315532800 + s) p = T := ⟨_, rfl⟩
    have HTi := Lib.hid (fun (E : Ent) (hE : E.time = T) (f : Int) (hf : f = 1 ∨ f = 2 ∨ f = 3 ∨ f = 4) => times_ok (E := E) HA0.out.1 HA0.out.2.1 HA0.out.2.2.1 HA0.out.2.2.2 (hE.trans hT.symm) hf)
    rw [hT] at hadd HTi
    obtain ⟨q, hq⟩ : ∃ q, wd false (p.toNat * UK) = q := ⟨_, rfl⟩
    rw [hq] at hadd hdiv
    clear hT hq HOk
    go_upto_region 3 with (first
      | ((with_reducible refine gate 12 rfl ?_); refine load_ent rfl _ rfl rfl HB.out ?_)
      | ((with_reducible refine gate 13 rfl ?_); refine build1 rfl _ rfl (E0, A, c) rfl (fun d hd => by rw [List.mem_singleton.1 hd]; exact HA.out) ?_; intro b1 w1 hr1 ho1; have HR1 := Lib.hid hr1; have HO1 := Lib.hid ho1; clear hr1 ho1)
      | (go_at_call 8; have q := great_any (l := [E0]) (n := 1) (c := 1) rfl (by decide) HR1.out (fun F hF => by rw [List.mem_singleton.1 hF]; exact HI.out); rw [HGr.out] at q; (with_reducible refine q.mono ?_); clear q; rintro x w2 ⟨rfl, hw⟩; obtain rfl := hw.symm))
    have rdiv := run_float_arith (P := Tryd.prog) w1 .quo 22 .f64 (floatOfInt .f64 p) 4652218415073722368 q hdiv
    have radd := run_float_arith (P := Tryd.prog) w1 .add 22 .f64 (floatOfInt .f64 (315532800 + s)) q T hadd
    have hb1 := HO1.out.keeps HB.out id
    have e5 : w1.cell? ⟨g1, 5, none⟩ = some (.float .f64 E0.time) := Joins.cell_of_block hb1 5
    have f5 := frozen_of_row w1 g1 5 _ _ hb1
    have hs1 := heap_setCell_same w1 g1 5 _ _ (.float .f64 T) hb1
    have HB2 := Lib.hid (show (w1.setCell ⟨g1, 5, none⟩ (.float .f64 T)).heap[g1]? = some (.cells (erow { E0 with time := T } A c) 25 (0, 0)) from hs1)
    have HO2 := Lib.hid (show Only (fun k => k = g1) w1 (w1.setCell ⟨g1, 5, none⟩ (.float .f64 T)) from only_put w1 g1 5 _)
    clear hdiv hadd hb1 hs1
    go_upto_region 5 with (fail)
    have hEn : EntAt (w1.setCell ⟨g1, 5, none⟩ (.float .f64 T)) { E0 with time := T } A c :=
      ⟨RdU.apart (HA.out.only HO1.out).1 HO2.out (fun ad e h0 => by have := ent_block HAw.out e h0; have := HGe.out; omega), HA.out.2⟩
    have hOV : Only (fun _ => False) w (w1.setCell ⟨g1, 5, none⟩ (.float .f64 T)) := (HO.out.trans' HO1.out).trans HO2.out (fun k hk => Or.inr (by rw [hk]; exact HGe.out))
    obtain ⟨V, hV⟩ : ∃ V, w1.setCell ⟨g1, 5, none⟩ (.float .f64 T) = V := ⟨_, rfl⟩
    rw [hV] at HB2 hEn hOV ⊢
    have HMV := Lib.hid (HM.out.only ((Only.refl (fun _ => False) W)))
    have HEok : EOk { E0 with time := T } := ⟨HEo.out.path, HEo.out.target, HEo.out.data⟩
    have HE2 := Lib.hid (show ({ E0 with time := T } : Ent).time = T from rfl)
    obtain ⟨E, hE⟩ : ∃ E : Ent, { E0 with time := T } = E := ⟨_, rfl⟩
    rw [hE] at HB2 hEn HEok HE2
    have HTi2 := Lib.hid (fun (f : Int) (hf : f = 1 ∨ f = 2 ∨ f = 3 ∨ f = 4) => HTi.out E HE2.out f hf)
    have hOa := (Only.refl (fun _ => False) V).alloc (.cells #[.float .f64 0, .float .f64 4611686018427387904, .float .f64 4566650022153682944, .float .f64 4607182418800017408, .float .f64 4607182418800017408] 22)
    have hBa := alloc_new V (.cells #[.float .f64 0, .float .f64 4611686018427387904, .float .f64 4566650022153682944, .float .f64 4607182418800017408, .float .f64 4607182418800017408] 22)
    clear hV hE rdiv radd e5 f5 HO2 HTi HB HA HO HO1 HAw HGe HA0 hs hp s0 s1 p0 p1 HR1
    clear w1
    go_upto_region 6 with (fail)
    change Code.wp Tryd.prog _ _ _ (V.alloc (.cells #[.float .f64 0, .float .f64 4611686018427387904, .float .f64 4566650022153682944, .float .f64 4607182418800017408, .float .f64 4607182418800017408] 22))
    obtain ⟨gs, hgs⟩ : ∃ gs, V.heap.size = gs := ⟨_, rfl⟩
    obtain ⟨U, hU⟩ : ∃ U, V.alloc (.cells #[.float .f64 0, .float .f64 4611686018427387904, .float .f64 4566650022153682944, .float .f64 4607182418800017408, .float .f64 4607182418800017408] 22) = U := ⟨_, rfl⟩
    rw [hgs, hU] at hBa
    rw [hU] at hOa
    rw [hgs, hU]
    have HBs := Lib.hid hBa
    have HBe := Lib.hid (hOa.keeps HB2.out id)
    have HEn := Lib.hid (hEn.only hOa)
    have HOu := Lib.hid (hOV.trans' hOa)
    have HMu := Lib.hid (show MaxLen U from by
      exact (MaxLen.only (show MaxLen w from HMw.out) (hOV.trans' hOa)))
    have HOne := Lib.hid (fun (f : Int) u (h : Only (fun _ => False) U u) => onep_any E A c f u HEok (HMu.out.only h) (HEn.out.only h))
    clear hBa hOa hU hgs hEn hOV HB2 HEok HMV
    clear V
    go_wp2_with fail
    go_loopw [9] (fun v9 u => ∃ f : Int, v9 = .int .i64 f ∧ 1 ≤ f ∧ f ≤ 5 ∧ Hid (Only (fun _ => False) U u)) (fun i _ => (5 - intOf i).toNat)
    case atStart => exact ⟨1, rfl, by decide, by decide, Lib.hid (Only.refl _ _)⟩
    case round =>
      obtain ⟨f, rfl, hf0, hf1, HU⟩ := hrel
      by_cases cf : f ≤ 4
      · have g1f : decide (f ≤ 4) = true := decide_eq_true cf
        obtain ⟨k1, r, k2, k3⟩ := HTi2.out f (by omega)
        have HFd := Lib.hid (fun A9 c9 u => fld5 (oneT E f) A9 c9 u)
        go_upto_region 10 with (first
          | ((with_reducible refine gate 34 rfl ?_); refine load_ent rfl _ rfl rfl (HU.out.keeps HBe.out id) ?_)
          | (go_at_call 10; (with_reducible refine (HOne.out f _ HU.out).mono ?_); rintro x w3 ⟨A3, k3', rfl, h3, ho3, hnw⟩; clear hnw h3; have HU3 := Lib.hid (HU.out.trans' ho3); clear ho3; have hfd := HFd.out A3 k3'))
        obtain ⟨X, hX⟩ : ∃ X, (oneT E f).time = X := ⟨_, rfl⟩
        rw [hX] at k1 k2 ⊢
        have rsub := run_float_arith (P := Tryd.prog) w3 .sub 22 .f64 T X r k2
        have hbs := HU3.out.keeps HBs.out id
        clear hX HFd hfd k2 HU
        rcases (show f = 1 ∨ f = 2 ∨ f = 3 ∨ f = 4 by omega) with rfl | rfl | rfl | rfl
        · rw [show stepW 1 = 4611686018427387904 from by unfold stepW; rw [if_pos rfl]] at k3
          have cs : w3.cell? ⟨gs, 1, none⟩ = some (.float .f64 4611686018427387904) := Joins.cell_of_block hbs 1
          clear hbs
          go_wp2_with fail
          exact ⟨⟨2, rfl, by decide, by decide, HU3⟩, by decide⟩
        · rw [show stepW 2 = 4566650022153682944 from by unfold stepW; rw [if_neg (by decide), if_pos rfl]] at k3
          have cs : w3.cell? ⟨gs, 2, none⟩ = some (.float .f64 4566650022153682944) := Joins.cell_of_block hbs 2
          clear hbs
          go_wp2_with fail
          exact ⟨⟨3, rfl, by decide, by decide, HU3⟩, by decide⟩
        · rw [show stepW 3 = 4607182418800017408 from by unfold stepW; rw [if_neg (by decide), if_neg (by decide)]] at k3
          have cs : w3.cell? ⟨gs, 3, none⟩ = some (.float .f64 4607182418800017408) := Joins.cell_of_block hbs 3
          clear hbs
          go_wp2_with fail
          exact ⟨⟨4, rfl, by decide, by decide, HU3⟩, by decide⟩
        · rw [show stepW 4 = 4607182418800017408 from by unfold stepW; rw [if_neg (by decide), if_neg (by decide)]] at k3
          have cs : w3.cell? ⟨gs, 4, none⟩ = some (.float .f64 4607182418800017408) := Joins.cell_of_block hbs 4
          clear hbs
          go_wp2_with fail
          exact ⟨⟨5, rfl, by decide, by decide, HU3⟩, by decide⟩
      · have g1f : decide (f ≤ 4) = false := decide_eq_false cf
        have HP5 := Lib.hid (fun u (h : Only (fun _ => False) U u) => HOne.out 5 u h)
        have HP9 := Lib.hid (fun u (h : Only (fun _ => False) U u) => HOne.out 9 u h)
        rw [oneT9] at HP9
        have h5t : (oneT E 5).time = nanW := by rw [oneT5]
        have hf5 : ∀ A9 c9 u, (Instr.field 25 (eval (oneT E 5) A9 c9) 5).run Tryd.prog u = .ok (.float .f64 nanW) u := fun A9 c9 u => by rw [fld5, h5t]
        have hf9 : ∀ A9 c9 u, (Instr.field 25 (eval E A9 c9) 5).run Tryd.prog u = .ok (.float .f64 T) u := fun A9 c9 u => by rw [fld5, HE2.out]
        have gN : (FloatKind.f64.format.order nanW nanW != some .eq) = true := isN_nanW
        obtain ⟨N5, hN5⟩ : ∃ N5, oneT E 5 = N5 := ⟨_, rfl⟩
        rw [hN5] at HP5 hf5
        obtain ⟨nw, hnw0⟩ : ∃ nw, nanW = nw := ⟨_, rfl⟩
        rw [hnw0] at hf5 gN
        have HTs := Lib.hid (fun u => rtsame_any T T u)
        rw [tSame_self] at HTs
        clear h5t hN5 hnw0 HTi2
        go_wp2_with (first
          | ((with_reducible refine gate 53 rfl ?_); refine load_ent rfl _ rfl rfl (HU.out.keeps HBe.out id) ?_)
          | ((with_reducible refine gate 63 rfl ?_); (refine gate_guard (by rfl) ?_; dsimp only); refine load_ent rfl _ rfl rfl (HU6.out.keeps HBe.out id) ?_)
          | (go_at_call 10
             first
               | ((with_reducible refine (HP5.out _ HU.out).mono ?_); rintro x w5 ⟨A5, k5, rfl, h5, ho5, hnw⟩; clear hnw h5; have HU5 := Lib.hid (HU.out.trans' ho5); clear ho5)
               | ((with_reducible refine (HP9.out _ HU6.out).mono ?_); rintro x w7 ⟨A7, k7, rfl, h7, ho7, hnw⟩; clear hnw h7; have HU7 := Lib.hid (HU6.out.trans' ho7); clear ho7))
          | (go_at_call 9; (with_reducible refine (told_any _ (HMu.out.only HU5.out)).mono ?_); rintro x w6 ⟨rfl, ho6⟩; have HU6 := Lib.hid (HU5.out.trans' ho6); clear ho6)
          | (go_at_call 11; (with_reducible refine (HTs.out _).mono ?_); rintro x w8 ⟨rfl, hw⟩; obtain rfl := hw.symm))
        go_ret
        exact ⟨rfl, HOu.out.trans' HU7.out⟩
theorem lawTimes {H : Type} {enc : TypeId × Value → H} {W : World} {base : Nat} {v0 v1 v2 : Value} {d0 d1 d2 : DataW H} {p0 p1 p2 : List MemPlace} {ts : List TypeId} {ds : List (DataW H)} (hm : MaxLen W)
    (ov0 : Value.okWide Tryd.prog W .any base 25 v0) (k0 : DataW.Trod enc Tryd.prog W 0 (fun _ => true) true 25 v0 d0 p0)
    (ov1 : Value.okWide Tryd.prog W .any base 3 v1) (k1 : DataW.Trod enc Tryd.prog W 0 (fun _ => true) true 3 v1 d1 p1)
    (ov2 : Value.okWide Tryd.prog W .any base 3 v2) (k2 : DataW.Trod enc Tryd.prog W 0 (fun _ => true) true 3 v2 d2 p2)
    (_ : (DataW.weightsEach Tryd.prog ts ds).all (· ≤ reachBytes) = true) :
    Calls Tryd.prog 3 #[v0, v1, v2] W fun e w' => e = .returned (.bool true) ∧ Below W.heap.size W w' := by
  obtain ⟨E, A, c, rfl, hA, hI⟩ := open_ent ov0 k0
  obtain ⟨n1, rfl, _, _, _⟩ := Go.ChangeShapes.open_int Tryd.underlying3 ov1 k1
  obtain ⟨n2, rfl, _, _, _⟩ := Go.ChangeShapes.open_int Tryd.underlying3 ov2 k2
  exact (times_law E A c n1 n2 hA hI hm).mono fun x w' h => ⟨h.1, h.2.none⟩
end Go.Proofs.YtdkfemmjoabbcaaDoor.Walks
