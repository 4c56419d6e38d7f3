/- The law 'a budget answers as the document says', where the limits may be: true, whatever the ops. -/
import Derived.Test.YtilkgjjfamdhdaaLawPlays
namespace Go.Proofs.Ytilkgjjfamdhdaa.Walks
open Go Go.RowKit Go.Proofs.Ytilkgjjfamdhdaa.Aid Go.ChangeShapes Go.WideShapes

attribute [local go_sem] run_store_float
/-- The program's budget (block g) and the reference's (block h) hold the same numbers. -/
structure StP (g h : Nat) (e t n p : Int) (r : Nat) (w0 wr : World) (en su ow : Int) : Prop where
  bud : wr.heap[g]? = some (Walks.bud e t n p r en su ow)
  bud' : wr.heap[h]? = some (rbud e t n p r en su ow)
  only : Only (fun k => k = g ∨ k = h) w0 wr
  en0 : 0 ≤ en
  en1 : en ≤ n
  su0 : 0 ≤ su
  su1 : su ≤ t
  ow0 : 0 ≤ ow
  ow1 : ow ≤ e
theorem beginC_cases (p n en k : Int) : beginC p n en k = 3 ∨ (beginC p n en k = 0 ∧ en < n) := by
  unfold beginC; split
  · exact .inl rfl
  · exact .inr ⟨rfl, by omega⟩
theorem dataC_cases (e t en su ow k : Int) (hs : su ≤ t) (ho : ow ≤ e) : dataC e t en su ow k = 1 ∨ dataC e t en su ow k = 3 ∨ (dataC e t en su ow k = 0 ∧ 0 ≤ k ∧ ow + k ≤ e ∧ su + k ≤ t) := by
  unfold dataC; split
  · exact .inl rfl
  · split
    · exact .inr (.inl rfl)
    · exact .inr (.inr ⟨rfl, by omega, roomC_fit (by omega) hs ho (by assumption)⟩)
/-- One op leaves both in step. -/
theorem StP.begins {g h : Nat} {e t n p : Int} {r : Nat} {w0 wr w2 w3 : World} {en su ow k : Int} (hgh : g ≠ h) (s : StP g h e t n p r w0 wr en su ow)
    (b1 : w2.heap[g]? = some (if beginC p n en k = 0 then Walks.bud e t n p r (en + 1) su 0 else Walks.bud e t n p r en su ow)) (o1 : Only (· = g) wr w2)
    (b2 : Hid (w3.heap[h]? = some (if beginC p n en k = 0 then rbud e t n p r (en + 1) su 0 else rbud e t n p r en su ow))) (o2 : Only (· = h) w2 w3) :
    ∃ en' su' ow', StP g h e t n p r w0 w3 en' su' ow' := by
  have kg := o2.keeps b1 (fun e => hgh e)
  have ho : Only (fun k => k = g ∨ k = h) w0 w3 := (s.only.trans o1 (fun k hk => .inl (.inl hk))).trans o2 (fun k hk => .inl (.inr hk))
  obtain ⟨_, _, _, z1, z2, z3, z4, z5, z6⟩ := s
  rcases beginC_cases p n en k with hc | ⟨hc, hl⟩
  · rw [hc] at kg; replace b2 := b2.out; rw [hc] at b2
    exact ⟨en, su, ow, kg, b2, ho, z1, z2, z3, z4, z5, z6⟩
  · rw [hc] at kg; replace b2 := b2.out; rw [hc] at b2
    exact ⟨en + 1, su, 0, kg, b2, ho, by omega, by omega, z3, z4, by omega, by omega⟩
theorem StP.datas {g h : Nat} {e t n p : Int} {r : Nat} {w0 wr w2 w3 : World} {en su ow k : Int} (hgh : g ≠ h) (s : StP g h e t n p r w0 wr en su ow)
    (b1 : w2.heap[g]? = some (if dataC e t en su ow k = 0 then Walks.bud e t n p r en (su + k) (ow + k) else Walks.bud e t n p r en su ow)) (o1 : Only (· = g) wr w2)
    (b2 : Hid (w3.heap[h]? = some (if dataC e t en su ow k = 0 then rbud e t n p r en (su + k) (ow + k) else rbud e t n p r en su ow))) (o2 : Only (· = h) w2 w3) :
    ∃ en' su' ow', StP g h e t n p r w0 w3 en' su' ow' := by
  have kg := o2.keeps b1 (fun e => hgh e)
  have ho : Only (fun k => k = g ∨ k = h) w0 w3 := (s.only.trans o1 (fun k hk => .inl (.inl hk))).trans o2 (fun k hk => .inl (.inr hk))
  obtain ⟨_, _, _, z1, z2, z3, z4, z5, z6⟩ := s
  rcases dataC_cases e t en su ow k z4 z6 with hc | hc | ⟨hc, h0, h1, h2⟩
  · rw [hc] at kg; replace b2 := b2.out; rw [hc] at b2
    exact ⟨en, su, ow, kg, b2, ho, z1, z2, z3, z4, z5, z6⟩
  · rw [hc] at kg; replace b2 := b2.out; rw [hc] at b2
    exact ⟨en, su, ow, kg, b2, ho, z1, z2, z3, z4, z5, z6⟩
  · rw [hc] at kg; replace b2 := b2.out; rw [hc] at b2
    exact ⟨en, su + k, ow + k, kg, b2, ho, z1, z2, by omega, by omega, by omega, by omega⟩
theorem entries_same (g : Nat) (e t n p : Int) (r : Nat) (en su ow : Int) (w : World) (hb : w.heap[g]? = some (Walks.bud e t n p r en su ow)) :
    Calls Try.prog 21 #[.pointer (some ⟨g, 0, none⟩)] w fun x w' => x = .returned (.int .i64 en) ∧ w' = w := (entries_any g e t n p r en su ow w hb).mono fun _ _ h => ⟨h.1, h.2.symm⟩
theorem total_same (g : Nat) (e t n p : Int) (r : Nat) (en su ow : Int) (w : World) (hb : w.heap[g]? = some (Walks.bud e t n p r en su ow)) :
    Calls Try.prog 22 #[.pointer (some ⟨g, 0, none⟩)] w fun x w' => x = .returned (.int .i64 su) ∧ w' = w := (total_any g e t n p r en su ow w hb).mono fun _ _ h => ⟨h.1, h.2.symm⟩
theorem mayB_bd {e t n p : Int} (h : mayB e t n p = true) : (0 ≤ e ∧ e ≤ 1073741824) ∧ (0 ≤ t ∧ t ≤ 1073741824) ∧ (0 ≤ n ∧ n ≤ 1048576) ∧ (0 ≤ p ∧ p ≤ 4096) := by
  unfold mayB withinB at h
  simp at h
  omega
set_option maxRecDepth 100000 in
set_option maxHeartbeats 2000000 in
theorem plays_yes (e t n p : Int) (r : Nat) (A : Option Addr) (len cap : Nat) (K N : Nat → Int) (R : Nat → Bool) (w : World) (ho : OpsAt w A len K N R) (hm : mayB e t n p = true) :
    Calls Try.prog 5 #[.agg #[.int .i64 e, .int .i64 t, .int .i64 n, .int .i64 p, .float .f64 r], .slice A len cap] w fun x w' => x = .returned (.bool true) ∧ Below w.heap.size w w' := by
  have hlen := ho.1
  obtain ⟨bE, bT, bM, bP⟩ := mayB_bd hm
  have HO := Lib.hid ho
  clear ho
  go_enter Try.func5, Try.ntmps5
  go_wp2_with fail
  go_at_call 12
  refine (new_at e t n p r _ hm).mono ?_
  rintro x w1 ⟨g, rfl, hg, HB, hbl⟩
  have hg' : w.heap.size < g := by have := hg; simp at this; omega
  have hz : w.heap.size < w1.heap.size := by have := hbl.size; simp at this; omega
  have HB0 := Lib.hid (((Below.refl w.heap.size w).alloc (Nat.le_refl _) _).trans (hbl.mono (by simp)))
  have HX := Lib.hid ((Box5.new w e t n p r 28).below hbl)
  clear hbl hg
  obtain ⟨k0, k1, k2, k3, k4⟩ := HX.out
  go_upto_region 2 with (fail)
  go_cut [22] (fun c wx => c = .bool false ∧ Below w1.heap.size w1 wx)
  case first =>
    go_region_with (first | (go_at_call 13; refine (may_any e t n p r w1.drew).mono ?_; rintro x wa ⟨rfl, hba⟩; obtain ⟨_, _, _, _, _⟩ := HX.out.belowD hba) | (go_at_call 14; refine (limits_any e t n p r w1.drew).mono ?_; rintro x wa ⟨rfl, hba⟩; obtain ⟨_, _, _, _, _⟩ := HX.out.belowD hba) | (go_at_call 13; refine (may_any e t n p r _).mono ?_; rintro x wb ⟨rfl, hbb⟩) | (go_at_call 14; refine (limits_any e t n p r _).mono ?_; rintro x wb ⟨rfl, hbb⟩))
    all_goals (go_wp2_with fail; go_meet; exact ⟨rfl, (((((Only.refl (fun _ => False) w1).drew).trans' (Only.of_below hba (fun _ => False))).trans' (Only.of_below hbb (fun _ => False)))).none⟩)
  case rest =>
    obtain ⟨rfl, hbw⟩ := hcut
    have HX2 := Lib.hid (HX.out.below hbw)
    have HB1 := Lib.hid (HB0.out.trans (hbw.mono (by omega)))
    have HBg := Lib.hid ((hbw.block g (Only.heap_lt HB.out)).trans HB.out)
    have hzc : w1.heap.size ≤ wc.heap.size := hbw.size
    have hgz := Only.heap_lt HB.out
    clear HX HB0 hbw HB k0 k1 k2 k3 k4
    obtain ⟨k0, k1, k2, k3, k4⟩ := HX2.out
    go_wp2_with fail
    go_at_call 14
    refine (limits_any e t n p r wc).mono ?_
    rintro x w2 ⟨rfl, hb2⟩
    have HX3 := Lib.hid (HX2.out.below hb2)
    have HB2 := Lib.hid (HB1.out.trans (hb2.mono (by omega)))
    have HBg2 := Lib.hid ((hb2.block g (Only.heap_lt HBg.out)).trans HBg.out)
    have hzd : wc.heap.size ≤ w2.heap.size := hb2.size
    clear HX2 HB1 HBg hb2 k0 k1 k2 k3 k4
    obtain ⟨k0, k1, k2, k3, k4⟩ := HX3.out
    go_wp2_with fail
    have hh : w2.heap.size ≠ g := by omega
    go_loopw [9] (fun i wr => ∃ (k : Nat) (en su ow : Int), i = .int .i64 (k : Int) ∧ k ≤ 60 ∧ Hid (StP g w2.heap.size e t n p r (w2.alloc (rbud e t n p r 0 0 0)) wr en su ow)) (fun i _ => 60 - (intOf i).toNat)
    case atStart => exact ⟨0, 0, 0, 0, rfl, by omega, Lib.hid ⟨(alloc_old _ _ (by omega)).trans HBg2.out, alloc_new _ _, Only.refl _ _, by omega, by omega, by omega, by omega, by omega, by omega⟩⟩
    case round =>
      obtain ⟨k, en, su, ow, rfl, hk, HS⟩ := hrel
      clear HBg2
      have SR : Hid (Only (fun k => w.heap.size ≤ k) w wr) := Lib.hid (((Only.of_below HB2.out (fun k => w.heap.size ≤ k)).alloc _).trans HS.out.only (fun k hk => .inl (by rcases hk with rfl | rfl <;> omega)))
      clear k0 k1 k2 k3 k4 HX3 hm
      by_cases c1 : k < len
      · by_cases c2 : k < 60
        · obtain ⟨ad, rfl, o0, o1, o2, b0, b1⟩ := HO.out.2 k c1
          have l0 := World.block_lt_of_cell? w _ o0
          have l1 := World.block_lt_of_cell? w _ o1
          have l2 := World.block_lt_of_cell? w _ o2
          replace o0 := SR.out.cell o0 (fun e => by omega)
          replace o1 := SR.out.cell o1 (fun e => by omega)
          replace o2 := SR.out.cell o2 (fun e => by omega)
          rw [add_field _ _ 1 (by decide)] at o1
          rw [add_field _ _ 2 (by decide)] at o2
          clear l0 l1 l2 SR HO HB2
          have ak := and63_i64 (N k)
          go_upto_if 74 with (fail)
          go_cut [10] from 54 to 125 (fun a wx => ∃ q : Int, a = .int .i64 q ∧ wx = wr)
          case first =>
            cases hR : R k
            · rw [hR] at o2
              go_wp2_with fail
              go_meet
              exact ⟨_, rfl, rfl⟩
            · rw [hR] at o2
              go_wp2_with fail
              go_meet
              exact ⟨_, rfl, rfl⟩
          case rest =>
            obtain ⟨q, rfl, rfl⟩ := hcut
            clear o1 o2 ak
            go_upto_if 85 with (fail)
            go_cut [11, 12] from 54 to 125 (fun f f' wx => ∃ (c en' su' ow' : Int), f = .int .i64 c ∧ f' = .int .i64 c ∧ Hid (StP g w2.heap.size e t n p r (w2.alloc (rbud e t n p r 0 0 0)) wx en' su' ow'))
            case first =>
              have S := Lib.hid HS.out
              obtain ⟨_, _, _, z1, z2, z3, z4, z5, z6⟩ := HS.out
              clear HS
              by_cases kz : ((wrap64 ((K k).tmod 3 + 3)).tmod 3 == 0) = true
              · go_wp2_with fail
                go_at_call 15
                refine (begin_any g e t n p r en su ow q _ S.out.bud z1 (by omega)).mono ?_
                rintro x w3 ⟨rfl, hb3, ho3⟩
                replace hb3 := Lib.hid hb3
                go_wp2_with fail
                go_at_call 17
                refine (rbegin_at w2.heap.size e t n p r en su ow q w3 (ho3.keeps S.out.bud' (fun e => hh e)) z1 (by omega)).mono ?_
                rintro x w4 ⟨rfl, hb4, ho4⟩
                go_wp2_with fail
                go_meet
                obtain ⟨en', su', ow', hs'⟩ := S.out.begins (fun e => hh e.symm) hb3.out ho3 hb4 ho4
                exact ⟨_, en', su', ow', rfl, rfl, Lib.hid hs'⟩
              · have kz' : ((wrap64 ((K k).tmod 3 + 3)).tmod 3 == 0) = false := by simpa using kz
                clear kz
                go_wp2_with fail
                go_at_call 18
                refine (data_any g e t n p r en su ow q _ S.out.bud bE bT (by omega) (by omega)).mono ?_
                rintro x w3 ⟨rfl, hb3, ho3⟩
                replace hb3 := Lib.hid hb3
                go_wp2_with fail
                go_at_call 19
                refine (rdata_at w2.heap.size e t n p r en su ow q w3 (ho3.keeps S.out.bud' (fun e => hh e)) bE bT (by omega) (by omega)).mono ?_
                rintro x w4 ⟨rfl, hb4, ho4⟩
                go_wp2_with fail
                go_meet
                obtain ⟨en', su', ow', hs'⟩ := S.out.datas (fun e => hh e.symm) hb3.out ho3 hb4 ho4
                exact ⟨_, en', su', ow', rfl, rfl, Lib.hid hs'⟩
            case rest =>
              obtain ⟨c, en', su', ow', rfl, rfl, HS'⟩ := hcut
              obtain ⟨_, c1', c2', c3', c5', c6', c7'⟩ := rbud_cells HS'.out.bud'
              have z3 := HS'.out.su0
              have z4 := HS'.out.su1
              have z5 := HS'.out.ow0
              have z6 := HS'.out.ow1
              clear HS o0 c1' c2' c3' c7'
              go_wp2_with fail
              go_quiet ((first | (go_at_call 16; exact Calls.quiet_of (room_any g e t n p r en' su' ow' _ HS'.out.bud bE bT (by omega) (by omega))) | (go_at_call 20; exact Calls.quiet_of (rroom_any w2.heap.size e t n p r en' su' ow' _ HS'.out.bud' bE bT (by omega) (by omega))) | (go_at_call 21; exact Calls.quiet_of_same (entries_same g e t n p r en' su' ow' _ HS'.out.bud)) | (go_at_call 22; exact Calls.quiet_of_same (total_same g e t n p r en' su' ow' _ HS'.out.bud))))
              go_wp2_with fail
              go_roundw
              case rel => exact ⟨k + 1, en', su', ow', by go_num, by omega, Lib.hid ⟨HS'.out.bud, HS'.out.bud', HS'.out.only.drewN _, HS'.out.en0, HS'.out.en1, z3, z4, z5, z6⟩⟩
              case measure => simp [intOf]; omega
        · have c2' : decide ((k : Int) < 60) = false := by simp; omega
          clear c2 HO
          go_wp2_with fail
          go_at_call 8
          refine (told_any _).mono ?_
          rintro x w3 ⟨rfl, hb3⟩
          go_wp2_with fail
          go_ret
          exact ⟨rfl, (SR.out.trans (Only.of_below hb3 (fun _ => False)) (fun _ hk => hk.elim)).below (Nat.le_refl _) (fun _ hk => hk)⟩
      · have c1' : len ≤ k := by omega
        clear c1 HO
        go_wp2_with fail
        go_at_call 8
        refine (told_any _).mono ?_
        rintro x w3 ⟨rfl, hb3⟩
        go_wp2_with fail
        go_ret
        exact ⟨rfl, (SR.out.trans (Only.of_below hb3 (fun _ => False)) (fun _ hk => hk.elim)).below (Nat.le_refl _) (fun _ hk => hk)⟩
theorem lawPlays {H : Type} {enc : TypeId × Value → H} {W : World} {base : Nat} {v0 v1 : Value} {d0 d1 : DataW H} {p0 p1 : List MemPlace} {ts : List TypeId} {ds : List (DataW H)}
    (ov0 : Value.okWide Try.prog W .any base 28 v0) (k0 : DataW.Trod enc Try.prog W 0 (fun _ => true) true 28 v0 d0 p0)
    (ov1 : Value.okWide Try.prog W .any base 29 v1) (k1 : DataW.Trod enc Try.prog W 0 (fun _ => true) true 29 v1 d1 p1)
    (_ : (DataW.weightsEach Try.prog ts ds).all (· ≤ reachBytes) = true) :
    Calls Try.prog 5 #[v0, v1] W fun e w' => e = .returned (.bool true) ∧ Below W.heap.size W w' := by
  obtain ⟨e, t, n, p, r, rfl, _⟩ := open_lim ov0 k0
  obtain ⟨A, len, cap, K, N, R, rfl, ho⟩ := open_ops ov1 k1
  cases hm : mayB e t n p
  · exact plays_no e t n p r A len cap W hm
  · exact plays_yes e t n p r A len cap K N R W ho hm
end Go.Proofs.Ytilkgjjfamdhdaa.Walks
