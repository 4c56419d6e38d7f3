/- What Slices comes to. -/
import Derived.Test.YtoiagpebfkignaaUpd
namespace Go.Proofs.Ytoiagpebfkignaa.Walks
open Go Go.RowKit Go.Proofs.Ytoiagpebfkignaa.Aid Go.Proofs.Ytoiagpebfkignaa.Plain

theorem info38 : (Try.prog.info? 38).map (fun i => (i.zero, i.size)) = some (some (.agg (Array.replicate 2048 (.int .u32 0))), 2048) := by kernel_rfl
theorem zero38 (w : World) : (zeroValue 38).run Try.prog w = .ok (.agg (Array.replicate 2048 (.int .u32 0))) w := (zero_of_info info38).1 w
attribute [local go_sem] zero38
attribute [local go_sem high] unary_not32
attribute [-go_sem] unary_xor
/-- The tables, the first i cells of which are made. -/
def eight (i : Nat) (j : Nat) : BitVec 32 := if j < i then tabs (j / 256) (j % 256) else 0#32
theorem eight_at {n a b : Nat} (h : a * 256 + b < n) (hb : b < 256) : eight n (a * 256 + b) = tabs a b := by
  unfold eight
  rw [if_pos h, show (a * 256 + b) / 256 = a by omega, show (a * 256 + b) % 256 = b by omega]
theorem eight_next (n j : Nat) : (if j = n then tabs (n / 256) (n % 256) else eight n j) = eight (n + 1) j := by
  unfold eight
  by_cases e : j = n
  · rw [if_pos e, if_pos (by omega), e]
  · rw [if_neg e]
    by_cases e2 : j < n
    · rw [if_pos e2, if_pos (by omega)]
    · rw [if_neg e2, if_neg (by omega)]
theorem Bytes.nat {l : List Int} (h : Bytes l) {i : Nat} (hi : i < l.length) : ∃ b : Nat, l.getD i 0 = (b : Int) ∧ b < 256 := by
  have := h.at hi
  obtain ⟨b, e⟩ := Int.eq_ofNat_of_zero_le this.1
  exact ⟨b, e, by omega⟩
theorem add_more (a : Addr) {n : Nat} (h : 0 < n) : a.add n = ⟨a.block, a.off + n, none⟩ := by
  unfold Addr.add
  rw [if_neg (by omega)]
theorem take8 {l : List Int} {i : Nat} (h : i + 8 ≤ l.length) : l.take (i + 8) = l.take i ++ [l.getD i 0, l.getD (i + 1) 0, l.getD (i + 2) 0, l.getD (i + 3) 0, l.getD (i + 4) 0, l.getD (i + 5) 0, l.getD (i + 6) 0, l.getD (i + 7) 0] := by
  have e : ∀ n, n < l.length → l.take (n + 1) = l.take n ++ [l.getD n 0] := fun n hn => by
    rw [List.take_add_one, List.getD_eq_getElem?_getD, List.getElem?_eq_getElem hn]; rfl
  rw [e (i + 7) (by omega), e (i + 6) (by omega), e (i + 5) (by omega), e (i + 4) (by omega), e (i + 3) (by omega), e (i + 2) (by omega), e (i + 1) (by omega), e i (by omega)]
  simp
/-- The four bytes that go into the register. -/
def four (b0 b1 b2 b3 : Nat) : BitVec 32 := BitVec.ofNat 32 b0 ^^^ BitVec.ofNat 32 b1 <<< 8 ^^^ BitVec.ofNat 32 b2 <<< 16 ^^^ BitVec.ofNat 32 b3 <<< 24
theorem four_or {b0 b1 b2 b3 : Nat} (h0 : b0 < 256) (h1 : b1 < 256) (h2 : b2 < 256) (h3 : b3 < 256) :
    Go.bits .or .u32 (Go.bits .or .u32 (Go.bits .or .u32 (b0 : Int) ((b1 : Int) * 256)) ((b2 : Int) * 65536)) ((b3 : Int) * 16777216) = nu (four b0 b1 b2 b3) := by
  have w1 : (b1 : Int) * 256 = ((b1 * 256 : Nat) : Int) := by omega
  have w2 : (b2 : Int) * 65536 = ((b2 * 65536 : Nat) : Int) := by omega
  have w3 : (b3 : Int) * 16777216 = ((b3 * 16777216 : Nat) : Int) := by omega
  rw [w1, w2, w3, or_nat stays_u32 (by omega) (by omega), or_nat stays_u32 (Nat.or_lt_two_pow (by omega) (by omega)) (by omega), or_nat stays_u32 (Nat.or_lt_two_pow (Nat.or_lt_two_pow (by omega) (by omega)) (by omega)) (by omega)]
  unfold nu
  congr 1
  have e : four b0 b1 b2 b3 = BitVec.ofNat 32 b0 ||| BitVec.ofNat 32 b1 <<< 8 ||| BitVec.ofNat 32 b2 <<< 16 ||| BitVec.ofNat 32 b3 <<< 24 := by
    unfold four
    apply BitVec.eq_of_getLsbD_eq
    intro j hj
    simp only [BitVec.getLsbD_xor, BitVec.getLsbD_or, BitVec.getLsbD_shiftLeft]
    by_cases c0 : j < 8
    · simp [c0, show j < 16 by omega, show j < 24 by omega]
    · rw [byte_high h0 j (by omega)]
      by_cases c1 : j < 16
      · simp [c1, show j < 24 by omega]
      · rw [byte_high h1 (j - 8) (by omega)]
        by_cases c2 : j < 24
        · simp [c2]
        · rw [byte_high h2 (j - 16) (by omega)]
          simp
  rw [e]
  simp only [BitVec.toNat_or, BitVec.toNat_shiftLeft, BitVec.toNat_ofNat, Nat.shiftLeft_eq]
  rw [show (2 : Nat) ^ 32 = 4294967296 by decide]
  rw [show b0 % 4294967296 = b0 by omega, show (b1 % 4294967296 * 2 ^ 8) % 4294967296 = b1 * 256 by omega, show (b2 % 4294967296 * 2 ^ 16) % 4294967296 = b2 * 65536 by omega, show (b3 % 4294967296 * 2 ^ 24) % 4294967296 = b3 * 16777216 by omega]
/-- What the second half of the eight bytes does. -/
def half (Y : BitVec 32) (b : Nat → Nat) : Nat → BitVec 32
  | 0 => Y
  | t + 1 => half Y b t ^^^ tabs (3 - t) (b t)
theorem byte_of (X : BitVec 32) (k : Nat) (m : Int) (hm : m = ((2 ^ k : Nat) : Int)) : IntKind.u8.wrap (nu X / m) = (((X >>> k).toNat % 256 : Nat) : Int) := by
  rw [nu_shr X k m hm, IntKind.wrap_u8]; unfold nu; omega
theorem byte_of0 (X : BitVec 32) : IntKind.u8.wrap (nu X) = ((X.toNat % 256 : Nat) : Int) := by
  rw [IntKind.wrap_u8]; unfold nu; omega
theorem run_eight {l : List Int} {i : Nat} (h : i + 8 ≤ l.length) (q0 q : BitVec 32) {b0 b1 b2 b3 : Nat} {b : Nat → Nat} (hq : run q0 (l.take i) = q) (h1 : b1 < 256) (h2 : b2 < 256) (h3 : b3 < 256)
    (e0 : l.getD i 0 = (b0 : Int)) (e1 : l.getD (i + 1) 0 = (b1 : Int)) (e2 : l.getD (i + 2) 0 = (b2 : Int)) (e3 : l.getD (i + 3) 0 = (b3 : Int)) (e : ∀ t, t < 4 → l.getD (i + 4 + t) 0 = (b t : Int)) :
    run q0 (l.take (i + 8)) = half (stpN 64 (q ^^^ four b0 b1 b2 b3)) b 4 := by
  rw [take8 h, run_append, hq, e0, e1, e2, e3, e 0 (by decide), show i + 5 = i + 4 + 1 from rfl, show i + 6 = i + 4 + 2 from rfl, show i + 7 = i + 4 + 3 from rfl, e 1 (by decide), e 2 (by decide), e 3 (by decide), run8 q b0 b1 b2 b3 _ _ _ _ h1 h2 h3]
  rfl
/-- A row laid into a block from its beginning on. -/
theorem store_row {P : Program} {w : World} {g : Nat} {t ty : TypeId} {n m : Nat} {f h : Nat → BitVec 32} {C : Array Value} (hA : ArrAt w g t n f) (hC : Are C m h) (hm : m ≤ n)
    (hi : (P.info? ty).map (·.size) = some m) : ∃ w', (storeVar ty ⟨g, 0, none⟩ (.agg C)).run P w = .ok () w' ∧ ArrAt w' g t n (fun j => if j < m then h j else f j) ∧ Only (fun k => k = g) w w' := by
  obtain ⟨D, hD, hf⟩ := hA
  have h1 := run_storeCells_at (P := P) g 0 t C.toList 0 D w hD (by simp [hC.1, hf.1]; exact hm) (fun v hv => (Array.all_eq_true_iff_forall_mem.1 hC.one) v (by rwa [← Array.mem_toList_iff]))
  obtain ⟨R, hR⟩ : ∃ R, R = (List.take (0 + 0) D.toList ++ C.toList ++ List.drop (0 + 0 + C.toList.length) D.toList).toArray := ⟨_, rfl⟩
  rw [← hR] at h1
  refine ⟨w.setRow g R, ?_, ⟨R, setRow_heap _ _ _ _ _ _ hD, ?_⟩, only_setRow (S := fun k => k = g) (Only.refl _ _) (Or.inl rfl) _⟩
  · cases hq : P.info? ty with
    | none => simp [hq] at hi
    | some i =>
      have hs : C.size = i.size := by simp [hq] at hi; rw [hC.1]; omega
      simpa [storeVar, sizeOf, typeInfo, hq, Value.cells, hs] using h1
  · subst hR
    refine ⟨by simp [hC.1, hf.1]; omega, fun j hj => ?_⟩
    show _ = some (Value.int .u32 (nu (if j < m then h j else f j)))
    by_cases e : j < m
    · rw [if_pos e, ← hC.2 j e]
      simp [List.getElem?_append, hC.1, e]
    · rw [if_neg e, ← hf.2 j hj]
      simp [List.getElem?_append, hC.1, e]
      congr 1
      omega
theorem wpList_store_arr {P : Program} {ops : Array Oper} {rest : List Oper} {o : Oper} {a : Act} {w : World} {Q : Exit → Act → World → Prop} (hgd : o.guard = none) (ty : TypeId) (x y : Operand) (ho : o.op = .store ty x y)
    (g : Nat) (C : Array Value) (hx : a.eval x = .pointer (some ⟨g, 0, none⟩)) (hy : a.eval y = .agg C) {t : TypeId} {n m : Nat} {f h : Nat → BitVec 32} (hA : ArrAt w g t n f) (hC : Are C m h) (hm : m ≤ n)
    (hi : (P.info? ty).map (·.size) = some m)
    (hK : ∀ w', ArrAt w' g t n (fun j => if j < m then h j else f j) → Only (fun k => k = g) w w' → wpList P ops Q rest (a.put o.dst undef) w') : wpList P ops Q (o :: rest) a w := by
  obtain ⟨w', h1, h2, h3⟩ := store_row (P := P) hA hC hm hi
  refine wpList_plain hgd fun _ hk => ?_
  unfold Oper.wp execOp
  simp only [ho, hx, hy, Instr.storeAt, Instr.sureAddr, Sem.run_bind, Sem.run_pure, Result.andThen_ok, h1]
  exact hk _ _ (hK w' h2 h3)
set_option maxHeartbeats 4000000 in
set_option maxRecDepth 100000 in
theorem slices_any {w : World} {A : Option Addr} {l : List Int} {cap : Nat} (hR : RdK .u8 w A l) (hb : Bytes l) (hs : l.length ≤ 1000000) : Calls Try.prog 13 #[.slice A l.length cap] w (UpdPost 0#32 l w) := by
  have HR := Lib.hid hR
  have HB := Lib.hid hb
  clear hR hb
  go_enter Try.func13, Try.ntmps13
  go_wp2_with fail
  go_at_call 16
  refine (table_any _).mono ?_
  rintro e w1 ⟨⟨C, rfl, hC⟩, hO1⟩
  go_wp2_with ((refine wpList_store_arr rfl 36 (.tmp 12) (.tmp 11) rfl w.heap.size C rfl rfl ((ArrAt.new _ _ (Are.zero 2048)).keep hO1 (fun h => h.elim)) hC (by decide) size36 ?_); intro w2 hA hO2)
  have hO3 : Only (fun _ => False) w w2 := (((Only.refl (fun _ => False) w).alloc _).trans' hO1).trans hO2 (fun k hk => Or.inr (by rw [hk]; exact Nat.le_refl _))
  have hA2 : ArrAt w2 w.heap.size 38 2048 (eight 256) := hA.congr (fun j _ => by
    unfold eight
    by_cases e : j < 256
    · rw [if_pos e, if_pos e, Nat.div_eq_of_lt e, Nat.mod_eq_of_lt e]; rfl
    · rw [if_neg e, if_neg e])
  clear hA hO2 hO1 hC
  generalize hgg : w.heap.size = g at hA2 ⊢
  have hg : w.heap.size ≤ g := Nat.le_of_eq hgg
  clear hgg
  go_loopw [4] (fun v4 u => ∃ k : Nat, v4 = .int .i64 (k : Int) ∧ 1 ≤ k ∧ k ≤ 8 ∧ ArrAt u g 38 2048 (eight (256 * k)) ∧ Only (fun _ => False) w u) (fun i _ => 8 - (intOf i).toNat)
  case atStart => exact ⟨1, rfl, by decide, by decide, hA2, hO3⟩
  case round =>
    obtain ⟨k, rfl, hk0, hk1, hA3, hO4⟩ := hrel
    by_cases c : k < 8
    · have c1 : decide ((k : Int) < 8) = true := by simpa using (show (k : Int) < 8 by omega)
      go_wp2_with fail
      go_outline
      go_loopw [17] (fun v17 u => ∃ i : Nat, v17 = .int .i64 (i : Int) ∧ i ≤ 256 ∧ ArrAt u g 38 2048 (eight (256 * k + i)) ∧ Only (fun _ => False) w u) (fun i _ => 256 - (intOf i).toNat)
      case atStart => exact ⟨0, rfl, by decide, hA3, hO4⟩
      case round =>
        obtain ⟨i, rfl, hi, hA4, hO5⟩ := hrel
        by_cases d : i < 256
        · have d1 : decide ((i : Int) < 256) = true := by simpa using (show (i : Int) < 256 by omega)
          have hL := hA4.cell (j := (k - 1) * 256 + i) (by omega)
          rw [eight_at (by omega) d] at hL
          obtain ⟨x, hx⟩ : ∃ x, x = tabs (k - 1) i := ⟨_, rfl⟩
          rw [← hx] at hL
          have e1 : nu x % 256 = ((x.toNat % 256 : Nat) : Int) := by unfold nu; omega
          have hm : x.toNat % 256 < 256 := Nat.mod_lt _ (by decide)
          have hM := hA4.cell (j := 0 * 256 + x.toNat % 256) (by omega)
          rw [eight_at (by omega) hm, tabs_zero, Nat.zero_mul, Nat.zero_add] at hM
          have hS := tabs_succ (k - 1) i
          rw [← hx, Nat.sub_add_cancel hk0] at hS
          have hN := hA4.cell (j := k * 256 + i) (by omega)
          have hF := hA4.free (k * 256 + i)
          have HS := Lib.hid hS
          clear hx hS
          generalize x.toNat % 256 = m at *
          go_wp2_with fail
          go_region
          go_wp2_with fail
          go_roundw
          case rel =>
            refine ⟨i + 1, by simp, by omega, ?_, ?_⟩
            · rw [nu_shr x 8 256 rfl, nu_xor, ← HS.out]
              refine ArrAt.congr (show ArrAt (World.setCell _ _ _) g 38 2048 _ from hA4.set (k * 256 + i) (tabs k i)) (fun j _ => ?_)
              have := eight_next (256 * k + i) j
              rw [show (256 * k + i) / 256 = k by omega, show (256 * k + i) % 256 = i by omega] at this
              rw [show k * 256 + i = 256 * k + i by omega, this, Nat.add_assoc]
            · exact (hO5.setCell (p := ⟨g, k * 256 + i, none⟩) (Or.inr hg) _).drew
          case measure => simp [intOf]; omega
        · have d1 : decide ((i : Int) < 256) = false := by simpa using (show ¬ (i : Int) < 256 by omega)
          have : i = 256 := by omega
          subst this
          go_wp2_with fail
          go_roundw
          case rel => exact ⟨k + 1, by simp, by omega, by omega, by rw [show 256 * (k + 1) = 256 * k + 256 by omega]; exact hA4, hO5⟩
          case measure => simp [intOf]; omega
    · have c1 : decide ((k : Int) < 8) = false := by simpa using (show ¬ (k : Int) < 8 by omega)
      have : k = 8 := by omega
      subst this
      clear hA2 hO3 hk0 hk1
      go_wp2_with fail
      go_loopw [7, 8] (fun v7 v8 u => ∃ i : Nat, v8 = .int .i64 (i : Int) ∧ i ≤ l.length ∧ v7 = .int .u32 (nu (run (~~~0#32) (l.take i))) ∧ ArrAt u g 38 2048 (eight 2048) ∧ Only (fun _ => False) w u) (fun _ i _ => l.length - (intOf i).toNat)
      case atStart => exact ⟨0, rfl, Nat.zero_le _, rfl, hA3, hO4⟩
      case round =>
        obtain ⟨i, rfl, hi, rfl, hA5, hO6⟩ := hrel
        by_cases d : i + 8 ≤ l.length
        · have d1 : decide ((l.length : Int) - i ≥ 8) = true := by simpa using (show (8 : Int) ≤ (l.length : Int) - i by omega)
          obtain ⟨ad, rfl, hc⟩ := (RdK.only HR.out hO6) (by omega)
          have k0 := hc i (by omega)
          have k1 := hc (i + 1) (by omega)
          have k2 := hc (i + 2) (by omega)
          have k3 := hc (i + 3) (by omega)
          obtain ⟨b0, g0, s0⟩ := HB.out.nat (i := i) (by omega)
          obtain ⟨b1, g1, s1⟩ := HB.out.nat (i := i + 1) (by omega)
          obtain ⟨b2, g2, s2⟩ := HB.out.nat (i := i + 2) (by omega)
          obtain ⟨b3, g3, s3⟩ := HB.out.nat (i := i + 3) (by omega)
          rw [g0] at k0
          rw [g1] at k1
          rw [g2] at k2
          rw [g3] at k3
          rw [add_more _ (by omega)] at k1 k2 k3
          have HG := Lib.hid (And.intro g0 (And.intro g1 (And.intro g2 g3)))
          clear g0 g1 g2 g3
          have u0 : IntKind.u32.wrap (b0 : Int) = b0 := u32_in (by omega) (by omega)
          have u1 : IntKind.u32.wrap (b1 : Int) = b1 := u32_in (by omega) (by omega)
          have u2 : IntKind.u32.wrap (b2 : Int) = b2 := u32_in (by omega) (by omega)
          have u3 : IntKind.u32.wrap (b3 : Int) = b3 := u32_in (by omega) (by omega)
          have i0 : (i : Int) < (l.length : Int) := by omega
          have i1 : (i : Int) + 1 < (l.length : Int) := by omega
          have i2 : (i : Int) + 2 < (l.length : Int) := by omega
          have i3 : (i : Int) + 3 < (l.length : Int) := by omega
          have z1 : (0 : Int) ≤ (i : Int) + 1 := by omega
          have z2 : (0 : Int) ≤ (i : Int) + 2 := by omega
          have z3 : (0 : Int) ≤ (i : Int) + 3 := by omega
          have n1 : ((i : Int) + 1).toNat = i + 1 := by omega
          have n2 : ((i : Int) + 2).toNat = i + 2 := by omega
          have n3 : ((i : Int) + 3).toNat = i + 3 := by omega
          have y1 : IntKind.i64.wrap ((i : Int) + 1) = (i : Int) + 1 := by rw [IntKind.wrap_i64]; omega
          have y2 : IntKind.i64.wrap ((i : Int) + 2) = (i : Int) + 2 := by rw [IntKind.wrap_i64]; omega
          have y3 : IntKind.i64.wrap ((i : Int) + 3) = (i : Int) + 3 := by rw [IntKind.wrap_i64]; omega
          have HX := Lib.hid (show run (~~~0#32) (l.take i) = run (~~~0#32) (l.take i) from rfl)
          generalize hq : run (~~~0#32) (l.take i) = q at *
          have HQ := Lib.hid hq
          clear hq HX
          have v1 := four_or s0 s1 s2 s3
          obtain ⟨F, hF⟩ : ∃ F, F = four b0 b1 b2 b3 := ⟨_, rfl⟩
          rw [← hF] at v1
          have v2 := nu_xor q F
          obtain ⟨X, hX⟩ : ∃ X, X = q ^^^ F := ⟨_, rfl⟩
          rw [← hX] at v2
          have HX := Lib.hid (And.intro hF hX)
          clear hF hX
          have mm : ∀ n : Nat, n % 256 < 256 := fun n => Nat.mod_lt _ (by decide)
          have a0 := byte_of0 X
          have a1 := byte_of X 8 256 rfl
          have a2 := byte_of X 16 65536 rfl
          have a3 := byte_of X 24 16777216 rfl
          have c7 := hA5.cell (j := 7 * 256 + X.toNat % 256) (by have := mm X.toNat; omega)
          have c6 := hA5.cell (j := 6 * 256 + (X >>> 8).toNat % 256) (by have := mm (X >>> 8).toNat; omega)
          have c5 := hA5.cell (j := 5 * 256 + (X >>> 16).toNat % 256) (by have := mm (X >>> 16).toNat; omega)
          have c4 := hA5.cell (j := 4 * 256 + (X >>> 24).toNat % 256) (by have := mm (X >>> 24).toNat; omega)
          rw [eight_at (by have := mm X.toNat; omega) (mm _)] at c7
          rw [eight_at (by have := mm (X >>> 8).toNat; omega) (mm _)] at c6
          rw [eight_at (by have := mm (X >>> 16).toNat; omega) (mm _)] at c5
          rw [eight_at (by have := mm (X >>> 24).toNat; omega) (mm _)] at c4
          have H64 := Lib.hid (stp64 X)
          have M0 := mm X.toNat
          have M1 := mm (X >>> 8).toNat
          have M2 := mm (X >>> 16).toNat
          have M3 := mm (X >>> 24).toNat
          generalize X.toNat % 256 = m0 at *
          generalize (X >>> 8).toNat % 256 = m1 at *
          generalize (X >>> 16).toNat % 256 = m2 at *
          generalize (X >>> 24).toNat % 256 = m3 at *
          clear mm
          have N0 : (m0 : Int) < 256 := by omega
          have N1 : (m1 : Int) < 256 := by omega
          have N2 : (m2 : Int) < 256 := by omega
          have N3 : (m3 : Int) < 256 := by omega
          simp only [show 7 * 256 = 1792 from rfl, show 6 * 256 = 1536 from rfl, show 5 * 256 = 1280 from rfl, show 4 * 256 = 1024 from rfl] at c7 c6 c5 c4
          have x1 := nu_xor (tabs 7 m0) (tabs 6 m1)
          have x2 := nu_xor (tabs 7 m0 ^^^ tabs 6 m1) (tabs 5 m2)
          have x3 := nu_xor (tabs 7 m0 ^^^ tabs 6 m1 ^^^ tabs 5 m2) (tabs 4 m3)
          rw [← H64.out] at x3
          go_wp2_with fail
          go_quiet (fail)
          go_wp2_with fail
          go_quiet (fail)
          go_wp2_with fail
          go_loopw [7, 103] (fun v7 v103 u => ∃ t : Nat, v103 = .int .i64 (t : Int) ∧ t ≤ 4 ∧ v7 = .int .u32 (nu (half (stpN 64 X) (fun t => (l.getD (i + 4 + t) 0).toNat) t)) ∧ ArrAt u g 38 2048 (eight 2048) ∧ Only (fun _ => False) w u) (fun _ t _ => 4 - (intOf t).toNat)
          case atStart => exact ⟨0, rfl, by decide, rfl, (hA5.drewN _).drewN _, (hO6.drewN _).drewN _⟩
          case round =>
            obtain ⟨t, rfl, ht, rfl, hA7, hO7⟩ := hrel
            clear k0 k1 k2 k3 c7 c6 c5 c4 a0 a1 a2 a3 v1 v2 x1 x2 x3
            by_cases f : t < 4
            · obtain ⟨ad', ea, hc'⟩ := (RdK.only HR.out hO7) (by omega)
              cases ea
              obtain ⟨b, gb, sb⟩ := HB.out.nat (i := i + 4 + t) (by omega)
              have h1 := hc' (i + 4 + t) (by omega)
              rw [gb] at h1
              have h1' := h1
              rw [add_more _ (by omega)] at h1'
              have hh : half (stpN 64 X) (fun t => (l.getD (i + 4 + t) 0).toNat) (t + 1) = half (stpN 64 X) (fun t => (l.getD (i + 4 + t) 0).toNat) t ^^^ tabs (3 - t) b := by
                show _ ^^^ tabs (3 - t) ((l.getD (i + 4 + t) 0).toNat) = _
                rw [gb, Int.toNat_natCast]
              have HH := Lib.hid hh
              clear hh gb hc hc'
              obtain ⟨Y, hY⟩ : ∃ Y, Y = half (stpN 64 X) (fun t => (l.getD (i + 4 + t) 0).toNat) t := ⟨_, rfl⟩
              rw [← hY] at HH ⊢
              clear hY
              have c1 := hA7.cell (j := (3 - t) * 256 + b) (by omega)
              rw [eight_at (by omega) sb] at c1
              have x1 := nu_xor Y (tabs (3 - t) b)
              have N1 : (b : Int) < 256 := by omega
              have t1 : (i : Int) + 4 + t < (l.length : Int) := by omega
              have t2 : IntKind.i64.wrap ((i : Int) + 4) = (i : Int) + 4 := by rw [IntKind.wrap_i64]; omega
              have t3 : IntKind.i64.wrap ((i : Int) + 4 + t) = (i : Int) + 4 + t := by rw [IntKind.wrap_i64]; omega
              have t4 : IntKind.i64.wrap (3 - (t : Int)) = ((3 - t : Nat) : Int) := by rw [IntKind.wrap_i64]; omega
              have t5 : ((i : Int) + 4 + t).toNat = i + 4 + t := by omega
              have t6 : (0 : Int) ≤ (i : Int) + 4 + t := by omega
              have t7 : ((3 - t : Nat) : Int) < 8 := by omega
              go_wp2_with fail
              go_quiet (fail)
              go_wp2_with fail
              go_roundw
              case rel => exact ⟨t + 1, by simp, by omega, by rw [HH.out], hA7.drewN _, hO7.drewN _⟩
              case measure => simp [intOf]; omega
            · have : t = 4 := by omega
              subst this
              have HW := Lib.hid (run_eight (b := fun t => (l.getD (i + 4 + t) 0).toNat) (b0 := b0) (b1 := b1) (b2 := b2) (b3 := b3) d (~~~0#32) q HQ.out s1 s2 s3 HG.out.1 HG.out.2.1 HG.out.2.2.1 HG.out.2.2.2 (fun t ht => (Int.toNat_of_nonneg (HB.out.at (by omega)).1).symm))
              go_wp2_with fail
              go_roundw
              case rel => exact ⟨i + 8, by simp, by omega, by rw [HW.out, ← HX.out.1, ← HX.out.2], hA7, hO7⟩
              case measure => simp [intOf]; omega
        · have d1 : decide ((l.length : Int) - i ≥ 8) = false := by simpa using (show (l.length : Int) - i < 8 by omega)
          go_wp2_with fail
          go_loopw [7, 8] (fun v7 v8 u => ∃ i : Nat, v8 = .int .i64 (i : Int) ∧ i ≤ l.length ∧ v7 = .int .u32 (nu (run (~~~0#32) (l.take i))) ∧ ArrAt u g 38 2048 (eight 2048) ∧ Only (fun _ => False) w u) (fun _ i _ => l.length - (intOf i).toNat)
          case atStart => exact ⟨i, rfl, hi, rfl, hA5, hO6⟩
          case round =>
            clear hi hA5 hO6 d d1
            obtain ⟨i, rfl, hi, rfl, hA5, hO6⟩ := hrel
            by_cases f : i < l.length
            · have f1 : decide ((i : Int) < (l.length : Int)) = true := by simpa using (show (i : Int) < l.length by omega)
              obtain ⟨ad, rfl, hc⟩ := (RdK.only HR.out hO6) (by omega)
              have h1 := hc i f
              have HX := Lib.hid (run_take f (~~~0#32))
              have HY := Lib.hid (HB.out.at f)
              clear hc
              generalize l.getD i 0 = x at *
              generalize hq : run (~~~0#32) (l.take i) = q at *
              clear hq
              have e1 := byte_xor (q := q) HY.out.1 HY.out.2
              have h2 : (q.toNat % 256) ^^^ x.toNat < 256 := Nat.xor_lt_two_pow (n := 8) (by omega) (by have := HY.out; omega)
              have HZ := Lib.hid (step_tab q x.toNat (by have := HY.out; omega))
              generalize (q.toNat % 256) ^^^ x.toNat = m at *
              have h3 := hA5.cell (j := 0 * 256 + m) (by omega)
              rw [eight_at (by omega) h2, tabs_zero, Nat.zero_mul, Nat.zero_add] at h3
              go_wp2_with fail
              go_roundw
              case rel =>
                refine ⟨i + 1, by simp, by omega, ?_, hA5, hO6⟩
                have e2 := HZ.out
                rw [Int.toNat_of_nonneg HY.out.1] at e2
                rw [HX.out, e2, ← nu_xor, ← nu_shr q 8 256 rfl]
              case measure => simp [intOf]; omega
            · have f1 : decide ((i : Int) < (l.length : Int)) = false := by simpa using (show ¬ (i : Int) < l.length by omega)
              have e : l.take i = l := List.take_of_length_le (by omega)
              rw [e]
              clear e
              go_wp2_with fail
              go_ret
              exact ⟨rfl, hO6⟩
end Go.Proofs.Ytoiagpebfkignaa.Walks
