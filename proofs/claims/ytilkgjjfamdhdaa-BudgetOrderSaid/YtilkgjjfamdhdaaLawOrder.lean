/- The law 'wider limits let all through that narrower ones let' answers true, whatever the limits and the ops. -/
import Derived.Test.YtilkgjjfamdhdaaLawHolds
namespace Go.Proofs.Ytilkgjjfamdhdaa.Walks
open Go Go.RowKit Go.Proofs.Ytilkgjjfamdhdaa.Aid

attribute [local go_sem] run_store_float
/-- Two budgets of the same numbers, the second one of wider limits. -/
structure St2 (g h : Nat) (e t n p e' t' n' p' : Int) (w0 wr : World) (en su ow : Int) : Prop where
  bud : wr.heap[g]? = some (Walks.bud e t n p 0 en su ow)
  bud' : wr.heap[h]? = some (Walks.bud e' t' n' p' 0 en su ow)
  only : Only (fun k => k = g ∨ k = h) w0 wr
  en0 : 0 ≤ en
  en1 : en ≤ n
  su0 : 0 ≤ su
  su1 : su ≤ t
  ow0 : 0 ≤ ow
  ow1 : ow ≤ e
theorem St2.keep {g h : Nat} {e t n p e' t' n' p' : Int} {w0 wr w2 : World} {en su ow en' su' ow' : Int} (s : St2 g h e t n p e' t' n' p' w0 wr en su ow)
    (hb : Hid (w2.heap[g]? = some (Walks.bud e t n p 0 en' su' ow'))) (hb' : Hid (w2.heap[h]? = some (Walks.bud e' t' n' p' 0 en' su' ow'))) (ho : Only (fun k => k = g ∨ k = h) wr w2)
    (a0 : 0 ≤ en') (a1 : en' ≤ n) (b0 : 0 ≤ su') (b1 : su' ≤ t) (c0 : 0 ≤ ow') (c1 : ow' ≤ e) : Hid (St2 g h e t n p e' t' n' p' w0 w2 en' su' ow') :=
  Lib.hid ⟨hb.out, hb'.out, s.only.trans' ho, a0, a1, b0, b1, c0, c1⟩
theorem roomC_mono {e t e' t' en su ow : Int} (h1 : e ≤ e') (h2 : t ≤ t') : roomC e t en su ow ≤ roomC e' t' en su ow := by
  unfold roomC; split; omega; split <;> split <;> omega
theorem roomC_fit {e t en su ow q : Int} (h0 : 0 ≤ q) (hs : su ≤ t) (ho : ow ≤ e) (h : ¬ q > roomC e t en su ow) : ow + q ≤ e ∧ su + q ≤ t := by
  unfold roomC at h; split at h; omega; split at h <;> omega
set_option maxRecDepth 100000 in
set_option maxHeartbeats 1000000 in
theorem lawOrder_any (e t n p : Int) (r : Nat) (e' t' n' p' : Int) (r' : Nat) (A : Option Addr) (len cap : Nat) (K N : Nat → Int) (R : Nat → Bool) (w : World) (ho : OpsAt w A len K N R) :
    Calls Try.prog 7 #[.agg #[.int .i64 e, .int .i64 t, .int .i64 n, .int .i64 p, .float .f64 r], .agg #[.int .i64 e', .int .i64 t', .int .i64 n', .int .i64 p', .float .f64 r'], .slice A len cap] w fun x w' => x = .returned (.bool true) ∧ Below w.heap.size w w' := by
  have hlen := ho.1
  have HO := Lib.hid ho
  clear ho
  obtain ⟨E, hE⟩ : ∃ E, E = e % 128 := ⟨_, rfl⟩
  obtain ⟨T, hT⟩ : ∃ E, E = t % 128 := ⟨_, rfl⟩
  obtain ⟨M, hM⟩ : ∃ E, E = n % 128 := ⟨_, rfl⟩
  obtain ⟨P, hP⟩ : ∃ E, E = p % 128 := ⟨_, rfl⟩
  obtain ⟨E', hE'⟩ : ∃ E, E = e' % 128 := ⟨_, rfl⟩
  obtain ⟨T', hT'⟩ : ∃ E, E = t' % 128 := ⟨_, rfl⟩
  obtain ⟨M', hM'⟩ : ∃ E, E = n' % 128 := ⟨_, rfl⟩
  obtain ⟨P', hP'⟩ : ∃ E, E = p' % 128 := ⟨_, rfl⟩
  have ae := and127_i64 e
  have at_ := and127_i64 t
  have an := and127_i64 n
  have ap := and127_i64 p
  have ae' := and127_i64 e'
  have at_' := and127_i64 t'
  have an' := and127_i64 n'
  have ap' := and127_i64 p'
  rw [← hE] at ae
  rw [← hT] at at_
  rw [← hM] at an
  rw [← hP] at ap
  rw [← hE'] at ae'
  rw [← hT'] at at_'
  rw [← hM'] at an'
  rw [← hP'] at ap'
  have bE : 0 ≤ E ∧ E ≤ 127 := by omega
  have bT : 0 ≤ T ∧ T ≤ 127 := by omega
  have bM : 0 ≤ M ∧ M ≤ 127 := by omega
  have bP : 0 ≤ P ∧ P ≤ 127 := by omega
  have bE' : 0 ≤ E' ∧ E' ≤ 127 := by omega
  have bT' : 0 ≤ T' ∧ T' ≤ 127 := by omega
  have bM' : 0 ≤ M' ∧ M' ≤ 127 := by omega
  have bP' : 0 ≤ P' ∧ P' ≤ 127 := by omega
  clear hE hT hM hP hE' hT' hM' hP'
  go_enter Try.func7, Try.ntmps7
  go_wp2_with fail
  go_at_call 12
  have hm : mayB E T M P = true := by unfold mayB withinB; simp; omega
  refine (new_at E T M P 0 _ hm).mono ?_
  rintro x w1 ⟨g, rfl, hg, HB, hbl⟩
  clear hm ae at_ an ap
  obtain ⟨hc, hf⟩ := bcell hbl
  have hz := hbl.size
  have hg' : w.heap.size + 4 ≤ g := by have := hg; simp at this; omega
  have hz' : w.heap.size + 4 ≤ w1.heap.size := by have := hz; simp at this; omega
  have HB0 := Lib.hid ((((((Below.refl w.heap.size w).alloc (Nat.le_refl _) _).alloc (by simp) _).alloc (by simp; omega) _).alloc (by simp; omega) _).trans (hbl.mono (by simp; omega)))
  clear hz hg
  go_wp2_with fail
  go_at_call 12
  have hm : mayB (E + E') (T + T') (M + M') (P + P') = true := by unfold mayB withinB; simp; omega
  refine (new_at (E + E') (T + T') (M + M') (P + P') 0 _ hm).mono ?_
  rintro x w2 ⟨h, rfl, hh, HB2, hbl2⟩
  have HB1 := Lib.hid (HB0.out.trans (hbl2.mono (by omega)))
  have hgh : g < h := Nat.lt_of_lt_of_le (Only.heap_lt HB.out) hh
  have HBg := Lib.hid ((hbl2.block g (Only.heap_lt HB.out)).trans HB.out)
  clear hm ae' at_' an' ap' hc hf hbl hbl2 HB0 HB
  go_wp2_with fail
  go_loopw [13] (fun i wr => ∃ (k : Nat) (en su ow : Int), i = .int .i64 (k : Int) ∧ k ≤ 60 ∧ Hid (St2 g h E T M P (E + E') (T + T') (M + M') (P + P') w2 wr en su ow)) (fun i _ => 60 - (intOf i).toNat)
  case atStart => exact ⟨0, 0, 0, 0, rfl, by omega, Lib.hid ⟨HBg.out, HB2.out, Only.refl _ _, by omega, by omega, by omega, by omega, by omega, by omega⟩⟩
  case round =>
    obtain ⟨k, en, su, ow, rfl, hk, HS⟩ := hrel
    clear HBg HB2
    have SR : Hid (Only (fun k => w.heap.size ≤ k) w wr) := Lib.hid ((Only.of_below HB1.out (fun k => w.heap.size ≤ k)).trans HS.out.only (fun k hk => .inl (by rcases hk with rfl | rfl <;> omega)))
    by_cases c1 : k < len
    · by_cases c2 : k < 60
      · obtain ⟨ad, rfl, o0, o1, o2, b0, b1⟩ := HO.out.2 k c1
        have l0 := World.block_lt_of_cell? w _ o0
        have l1 := World.block_lt_of_cell? w _ o1
        replace o0 := SR.out.cell o0 (fun e => by omega)
        replace o1 := SR.out.cell o1 (fun e => by omega)
        rw [add_field _ _ 1 (by decide)] at o1
        clear o2 l0 l1 SR HO HB1
        have ak := and63_i64 (N k)
        obtain ⟨q, hq⟩ : ∃ q, q = N k % 64 := ⟨_, rfl⟩
        have bq : 0 ≤ q ∧ q ≤ 63 := by omega
        rw [← hq] at ak
        clear hq
        go_upto_if 103 with (fail)
        go_cut [] from 79 to 144 (fun wx => ∃ (en' su' ow' : Int), Hid (St2 g h E T M P (E + E') (T + T') (M + M') (P + P') w2 wx en' su' ow'))
        case first =>
          have S := Lib.hid HS.out
          obtain ⟨_, _, _, z1, z2, z3, z4, z5, z6⟩ := HS.out
          clear HS
          by_cases kz : ((wrap64 ((K k).tmod 3 + 3)).tmod 3 == 0) = true
          · by_cases d1 : P < q ∨ en ≥ M
            · have CT := Lib.hid (begin_at g E T M P 0 en su ow q 3 _ wr (Lib.hid S.out.bud) z1 (by omega) (beginC_no d1) rfl)
              go_wp2_with fail
              go_at_call 15
              refine CT.out.mono ?_
              rintro x w3 ⟨rfl, HB3, ho3⟩
              go_wp2_with fail
              go_meet
              exact ⟨en, su, ow, S.out.keep HB3 (Lib.hid (ho3.keeps S.out.bud' (fun e => by omega))) (ho3.mono (fun k _ hk => .inl hk)) z1 z2 z3 z4 z5 z6⟩
            · have d2 : ¬ (P + P' < q ∨ en ≥ M + M') := by omega
              have CT := Lib.hid (begin_at g E T M P 0 en su ow q 0 _ wr (Lib.hid S.out.bud) z1 (by omega) (beginC_ok d1) rfl)
              go_wp2_with fail
              go_at_call 15
              refine CT.out.mono ?_
              rintro x w3 ⟨rfl, HB3, ho3⟩
              have CT2 := Lib.hid (begin_at h (E + E') (T + T') (M + M') (P + P') 0 en su ow q 0 _ w3 (Lib.hid (ho3.keeps S.out.bud' (fun e => by omega))) z1 (by omega) (beginC_ok d2) rfl)
              go_wp2_with fail
              go_at_call 15
              refine CT2.out.mono ?_
              rintro x w4 ⟨rfl, HB4, ho4⟩
              go_wp2_with fail
              go_meet
              exact ⟨en + 1, su, 0, S.out.keep (Lib.hid (ho4.keeps HB3.out (fun e => by omega))) HB4 ((ho3.mono (fun k _ hk => .inl hk)).trans (ho4.mono (fun k _ hk => .inr hk)) (fun k hk => .inl hk)) (by omega) (by omega) z3 z4 (by omega) (by omega)⟩
          · have kz' : ((wrap64 ((K k).tmod 3 + 3)).tmod 3 == 0) = false := by simpa using kz
            clear kz
            by_cases d1 : q > roomC E T en su ow
            · have CT := Lib.hid (data_at g E T M P 0 en su ow q 3 _ wr (Lib.hid S.out.bud) (by omega) (by omega) (by omega) (by omega) (dataC_no (by omega) d1) rfl)
              go_wp2_with fail
              go_at_call 18
              refine CT.out.mono ?_
              rintro x w3 ⟨rfl, HB3, ho3⟩
              go_wp2_with fail
              go_meet
              exact ⟨en, su, ow, S.out.keep HB3 (Lib.hid (ho3.keeps S.out.bud' (fun e => by omega))) (ho3.mono (fun k _ hk => .inl hk)) z1 z2 z3 z4 z5 z6⟩
            · have d2 : ¬ q > roomC (E + E') (T + T') en su ow := by have := roomC_mono (e := E) (t := T) (e' := E + E') (t' := T + T') (en := en) (su := su) (ow := ow) (by omega) (by omega); omega
              have d3 := Lib.hid (roomC_fit (by omega) z4 z6 d1)
              have CT := Lib.hid (data_at g E T M P 0 en su ow q 0 _ wr (Lib.hid S.out.bud) (by omega) (by omega) (by omega) (by omega) (dataC_ok (by omega) d1) rfl)
              go_wp2_with fail
              go_at_call 18
              refine CT.out.mono ?_
              rintro x w3 ⟨rfl, HB3, ho3⟩
              have CT2 := Lib.hid (data_at h (E + E') (T + T') (M + M') (P + P') 0 en su ow q 0 _ w3 (Lib.hid (ho3.keeps S.out.bud' (fun e => by omega))) (by omega) (by omega) (by omega) (by omega) (dataC_ok (by omega) (by omega)) rfl)
              go_wp2_with fail
              go_at_call 18
              refine CT2.out.mono ?_
              rintro x w4 ⟨rfl, HB4, ho4⟩
              go_wp2_with fail
              go_meet
              exact ⟨en, su + q, ow + q, S.out.keep (Lib.hid (ho4.keeps HB3.out (fun e => by omega))) HB4 ((ho3.mono (fun k _ hk => .inl hk)).trans (ho4.mono (fun k _ hk => .inr hk)) (fun k hk => .inl hk)) z1 z2 (by omega) (by have := d3.out; omega) (by omega) (by have := d3.out; omega)⟩
        case rest =>
          obtain ⟨en', su', ow', HS'⟩ := hcut
          obtain ⟨hb', hb2', hon', z1, z2, z3, z4, z5, z6⟩ := HS'.out
          have ct := Lib.hid (total_any g E T M P 0 en' su' ow' wc hb')
          have ce := Lib.hid (entries_any g E T M P 0 en' su' ow' wc hb')
          have cr := Lib.hid (room_any g E T M P 0 en' su' ow' wc hb' (by omega) (by omega) (by omega) (by omega))
          have ct2 := Lib.hid (total_any h (E + E') (T + T') (M + M') (P + P') 0 en' su' ow' wc hb2')
          have ce2 := Lib.hid (entries_any h (E + E') (T + T') (M + M') (P + P') 0 en' su' ow' wc hb2')
          have cr2 := Lib.hid (fun m => room_any h (E + E') (T + T') (M + M') (P + P') 0 en' su' ow' (wc.drewN m) hb2' (by omega) (by omega) (by omega) (by omega))
          have hrm := roomC_mono (e := E) (t := T) (e' := E + E') (t' := T + T') (en := en') (su := su') (ow := ow') (by omega) (by omega)
          clear hb' hb2' hon' o0 o1
          go_wp2_with fail
          go_at_call 22; refine ct.out.mono ?_; rintro e w' ⟨rfl, rfl⟩
          go_wp2_with fail
          go_at_call 22; refine ct2.out.mono ?_; rintro e w' ⟨rfl, rfl⟩
          go_wp2_with fail
          go_at_call 21; refine ce.out.mono ?_; rintro e w' ⟨rfl, rfl⟩
          go_wp2_with fail
          go_at_call 21; refine ce2.out.mono ?_; rintro e w' ⟨rfl, rfl⟩
          go_wp2_with fail
          go_at_call 16; refine cr.out.mono ?_; rintro e w' ⟨rfl, m, rfl⟩
          go_wp2_with fail
          go_at_call 16; refine (cr2.out m).mono ?_; rintro e w' ⟨rfl, m', rfl⟩
          go_wp2_with fail
          go_roundw
          case rel => exact ⟨k + 1, en', su', ow', by go_num, by omega, HS'.out.keep (w2 := World.drewN wc _) (Lib.hid HS'.out.bud) (Lib.hid HS'.out.bud') ((Only.refl _ _).drewN _) z1 z2 z3 z4 z5 z6⟩
          case measure => simp [intOf]; omega
      · have c2' : decide ((k : Int) < 60) = false := by simp; omega
        clear c2 HO
        go_wp2_with fail
        go_at_call 8
        refine (told_any _).mono ?_
        rintro x w3 ⟨rfl, hb3⟩
        go_wp2_with fail
        go_ret
        exact ⟨rfl, (SR.out.trans (Only.of_below hb3 (fun _ => False)) (fun _ hk => hk.elim)).below (Nat.le_refl _) (fun _ hk => hk)⟩
    · have c1' : len ≤ k := by omega
      clear c1 HO
      go_wp2_with fail
      go_at_call 8
      refine (told_any _).mono ?_
      rintro x w3 ⟨rfl, hb3⟩
      go_wp2_with fail
      go_ret
      exact ⟨rfl, (SR.out.trans (Only.of_below hb3 (fun _ => False)) (fun _ hk => hk.elim)).below (Nat.le_refl _) (fun _ hk => hk)⟩
theorem lawOrder {H : Type} {enc : TypeId × Value → H} {W : World} {base : Nat} {v0 v1 v2 : Value} {d0 d1 d2 : DataW H} {p0 p1 p2 : List MemPlace} {ts : List TypeId} {ds : List (DataW H)}
    (ov0 : Value.okWide Try.prog W .any base 28 v0) (k0 : DataW.Trod enc Try.prog W 0 (fun _ => true) true 28 v0 d0 p0)
    (ov1 : Value.okWide Try.prog W .any base 28 v1) (k1 : DataW.Trod enc Try.prog W 0 (fun _ => true) true 28 v1 d1 p1)
    (ov2 : Value.okWide Try.prog W .any base 29 v2) (k2 : DataW.Trod enc Try.prog W 0 (fun _ => true) true 29 v2 d2 p2)
    (_ : (DataW.weightsEach Try.prog ts ds).all (· ≤ reachBytes) = true) :
    Calls Try.prog 7 #[v0, v1, v2] W fun e w' => e = .returned (.bool true) ∧ Below W.heap.size W w' := by
  obtain ⟨e, t, n, p, r, rfl, _⟩ := open_lim ov0 k0
  obtain ⟨e', t', n', p', r', rfl, _⟩ := open_lim ov1 k1
  obtain ⟨A, len, cap, K, N, R, rfl, ho⟩ := open_ops ov2 k2
  exact lawOrder_any e t n p r e' t' n' p' r' A len cap K N R W ho
end Go.Proofs.Ytilkgjjfamdhdaa.Walks
