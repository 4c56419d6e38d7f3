/- DetectBlind answers true. -/
import Derived.Test.YtgleehnmnmmdcaaDoorRefF
import Derived.Test.YtgleehnmnmmdcaaDoorWZeros
namespace Go.Proofs.YtgleehnmnmmdcaaDoor.Walks
open Go Go.RowKit Go.Proofs.YtgleehnmnmmdcaaDoor.Aid Go.Proofs.YtgleehnmnmmdcaaDoor.Own Go.ChangeShapes Go.WideShapes Go.Proofs.YtgleehnmnmmdcaaDoorW.PrintWords

theorem own_zeros {ops : Array Oper} {rest : List Oper} {o : Oper} {a : Act} {Q : Exit → Act → World → Prop} {w0 W : World} {base : Nat} (hgd : o.guard = none) (s x : Operand) (ho : o.op = .call { callee := .builtin .append, args := #[s, x], argTypes := #[22, 3] })
    (v : Value) (xs : List Int) (n : Nat) (hs : a.eval s = v) (hx : a.eval x = .int .i64 (n : Int)) (HO : Own base W v xs) (HB : Below base w0 W) (hbase : base ≤ W.heap.size)
    (hl : xs.length + n ≤ 1000000) (h : ∀ v1 w1, Own base w1 v1 (xs ++ List.replicate n 0) → Below base w0 w1 → W.heap.size ≤ w1.heap.size → wpList Tryd.prog ops Q rest (a.put o.dst v1) w1) : wpList Tryd.prog ops Q (o :: rest) a W := by
  refine Kd.R_append_zeros (Kd.int .u8) base hgd s x 22 3 5 (.int .u8 0) 1 ho Tryd.underlying22 Tryd.underlying3 info5 rfl (by decide) (by decide) v xs (0 : Int) (n : Int) (fun _ => True) hs hx ?hzero (fun _ _ => trivial) HO (by omega) HB hbase (by simp; omega) ?_
  case hzero => exact rfl
  intro v1 w1 hO hB hg _
  exact h v1 w1 hO hB hg.size
theorem own_append_n {ops : Array Oper} {rest : List Oper} {o : Oper} {a : Act} {Q : Exit → Act → World → Prop} {w0 W : World} {base : Nat} (hgd : o.guard = none) (s x : Operand) (ho : o.op = .call { callee := .builtin .append, args := #[s, x], argTypes := #[22, 22] })
    (v : Value) (xs ys : List Int) (A : Option Addr) (c n : Nat) (hs : a.eval s = v) (hx : a.eval x = .slice A n c) (hn : ys.length = n) (HO : Own base W v xs) (HR : RdK .u8 W A ys) (HB : Below base w0 W) (hbase : base ≤ W.heap.size)
    (hl : xs.length + ys.length ≤ 1000000) (h : ∀ v1 w1, Own base w1 v1 (xs ++ ys) → Below base w0 w1 → W.heap.size ≤ w1.heap.size → wpList Tryd.prog ops Q rest (a.put o.dst v1) w1) : wpList Tryd.prog ops Q (o :: rest) a W := by
  subst hn; exact own_append hgd s x ho v xs ys A c hs hx HO HR HB hbase hl h
theorem own_rdc {base : Nat} {w : World} {v : Value} {l : List Int} (h : Own base w v l) : ∃ A c, v = .slice A l.length c ∧ l.length ≤ c ∧ RdK .u8 w A l := by
  obtain ⟨A, c, e, hc, h2⟩ := Kd.R_reads h
  have := Kd.reads_of_C (d := (0 : Int)) h2
  exact ⟨A, c, e, hc, this.2.2⟩
theorem format_n {w : World} {A : Option Addr} {l : List Int} {c n : Nat} (e : Bool) (hn : l.length = n) (hc : n ≤ c) (hl : l.length ≤ 1000000) (hA : RdK .u8 w A l) (bl : Bytes l) : Calls Tryd.prog 8 #[.slice A n c, .bool e] w (FmtPost l e w) := by
  subst hn; exact format_any e hc hl hA bl
set_option maxHeartbeats 4000000 in
theorem blind_any {w : World} {A A' : Option Addr} {l l' : List Int} {c c' : Nat} (hl : l.length ≤ 600) (hA : RdK .u8 w A l) (bl : Bytes l) (hl' : l'.length ≤ 300) (hA' : RdK .u8 w A' l') (bl' : Bytes l') :
    Calls Tryd.prog 6 #[.slice A l.length c, .slice A' l'.length c'] w fun e w' => e = .returned (.bool true) ∧ Below w.heap.size w w' := by
  have d1 : decide ((l.length : Int) > 600) = false := decide_eq_false (by omega)
  have d2 : decide ((l'.length : Int) > 300) = false := decide_eq_false (by omega)
  have HA := Lib.hid hA
  have HA' := Lib.hid hA'
  have BL := Lib.hid bl
  have BL' := Lib.hid bl'
  have HL := Lib.hid hl
  have HL' := Lib.hid hl'
  have q1 : (l.length : Int) ≤ 600 := by omega
  obtain ⟨k, hk⟩ : ∃ k : Nat, (600 : Int) - (l.length : Int) = (k : Int) := ⟨600 - l.length, by omega⟩
  have HK := Lib.hid (show l.length + k = 600 by omega)
  clear hA hA' bl bl' hl hl'
  go_enter Tryd.func6, Tryd.ntmps6
  go_upto_region 4 with (first
    | (with_reducible refine gate 22 rfl ?_
       refine gate_guard (by rfl) ?_; dsimp only
       refine own_empty (base := w.heap.size) (w0 := w) rfl rfl ?hr (Below.refl _ _) (Nat.le_refl _) ?_
       (case hr => first | (go_simp; done) | (go_simp; rfl))
       intro v1 w1 hO1 hB1 hs1)
    | (with_reducible refine gate 24 rfl ?_
       refine gate_guard (by rfl) ?_; dsimp only
       refine own_append (base := w.heap.size) (w0 := w) rfl (.tmp 22) (.tmp 23) rfl v1 [] l A c rfl rfl hO1 (HA.out.below hB1) hB1 hB1.size (by have := HL.out; simp; omega) ?_
       intro v2 w2 hO2 hB2 hs2)
    | (with_reducible refine gate 28 rfl ?_
       refine gate_guard (by rfl) ?_; dsimp only
       refine own_zeros (base := w.heap.size) (w0 := w) rfl (.tmp 24) (.tmp 27) rfl v2 ([] ++ l) k rfl rfl hO2 hB2 hB2.size (by have := HL.out; have := HK.out; simp; omega) ?_
       intro v3 w3 hO3 hB3 hs3))
  rw [List.nil_append] at hO3
  obtain ⟨X, hX⟩ : ∃ X, l ++ List.replicate k 0 = X := ⟨_, rfl⟩
  have hXl : X.length = 600 := by rw [← hX, List.length_append, List.length_replicate]; exact HK.out
  have hXb : Bytes X := by
    rw [← hX]
    exact fun x hx => (List.mem_append.1 hx).elim (BL.out x) (fun h => by rw [List.eq_of_mem_replicate h]; decide)
  rw [hX] at hO3
  obtain ⟨A3, c3, rfl, hc3, hR3⟩ := own_rdc hO3
  have HX := Lib.hid hXl
  have HXB := Lib.hid hXb
  have HR3 := Lib.hid hR3
  have HC3 := Lib.hid (show 600 ≤ c3 by omega)
  rw [hXl]
  have q3 : (512 : Int) ≤ (c3 : Int) := by omega
  have HBk := Lib.hid hB3
  clear hX hXb hR3 hc3 hO3 hO2 hO1 hB1 hB2 hs1 hs2 hs3 hB3 hXl
  go_upto_region 5 with (first
    | (with_reducible refine gate 29 rfl ?_
       refine gate_guard (by rfl) ?_; dsimp only
       refine own_empty (base := w3.heap.size) (w0 := w3) rfl rfl ?hr (Below.refl _ _) (Nat.le_refl _) ?_
       (case hr => first | (go_simp; done) | (go_simp; rfl))
       intro v4 w4 hO4 hB4 hs4)
    | (with_reducible refine gate 32 rfl ?_
       refine gate_guard (by rfl) ?_; dsimp only
       refine own_append_n (base := w3.heap.size) (w0 := w3) rfl (.tmp 29) (.tmp 31) rfl v4 [] (X.take 512) A3 c3 512 rfl rfl (by have := HX.out; rw [List.length_take]; omega) hO4 ((RdK.take HR3.out 512).below hB4) hB4 hB4.size (by have := HX.out; simp; omega) ?_
       intro v5 w5 hO5 hB5 hs5)
    | (with_reducible refine gate 34 rfl ?_
       refine gate_guard (by rfl) ?_; dsimp only
       refine own_append (base := w3.heap.size) (w0 := w3) rfl (.tmp 32) (.tmp 33) rfl v5 ([] ++ X.take 512) l' A' c' rfl rfl hO5 ((HA'.out.below HBk.out).below hB5) hB5 hB5.size (by have := HX.out; have := HL'.out; simp; omega) ?_
       intro v6 w6 hO6 hB6 hs6))
  rw [List.nil_append] at hO6
  obtain ⟨Y, hY⟩ : ∃ Y, X.take 512 ++ l' = Y := ⟨_, rfl⟩
  have hYl : Y.length ≤ 1000 ∧ 512 ≤ Y.length := by rw [← hY, List.length_append, List.length_take]; have := HX.out; have := HL'.out; omega
  have hYb : Bytes Y := by
    rw [← hY]
    exact fun x hx => (List.mem_append.1 hx).elim (fun h => HXB.out x (List.mem_of_mem_take h)) (BL'.out x)
  have hXY : fmtOf Y false = fmtOf X true := by
    rw [← blind (l := Y) (e := false) (e' := false) hYl.2, ← blind (l := X) (e := false) (e' := true) (by have := HX.out; omega), ← hY]
    rw [List.take_left' (by rw [List.length_take]; have := HX.out; omega)]
  rw [hY] at hO6
  obtain ⟨A4, c4, rfl, hc4, hR4⟩ := own_rdc hO6
  obtain ⟨f, hf⟩ : ∃ f, fmtOf X true = f := ⟨_, rfl⟩
  rw [hf] at hXY
  have hr : 0 ≤ f.1 ∧ f.1 ≤ 5 := by rw [← hf, fmt_pick]; exact pick_range _ _ _ _ _ _
  obtain ⟨a, e⟩ := f
  have HFX := Lib.hid hf
  have HFY := Lib.hid hXY
  have HY := Lib.hid hYl
  have HYB := Lib.hid hYb
  have HR4 := Lib.hid hR4
  have HR3b := Lib.hid (HR3.out.below hB6)
  have HC4 := Lib.hid hc4
  have HBk6 := Lib.hid (HBk.out.trans (hB6.mono HBk.out.size))
  have r1 : decide (a ≥ 0) = true := decide_eq_true hr.1
  have r2 : decide (a ≤ 5) = true := decide_eq_true hr.2
  clear hf hXY hYl hYb hR4 hc4 hr hO6 hO5 hO4 hB4 hB5 hB6 hs4 hs5 hs6 hY
  go_wp2_with fail
  refine (format_n (l := X) (c := c3) true HX.out HC3.out (by have := HX.out; omega) HR3b.out HXB.out).mono ?_
  rintro x u1 ⟨rfl, h1⟩
  rw [HFX.out]
  have H1 := Lib.hid h1
  clear h1
  go_wp2_with fail
  refine (format_any (l := Y) (c := c4) false HC4.out (by have := HY.out; omega) (rd_only HR4.out H1.out) HYB.out).mono ?_
  rintro x u2 ⟨rfl, h2⟩
  rw [HFY.out]
  have H2 := Lib.hid (H1.out.trans' h2)
  clear h2
  go_wp2_with fail
  refine (rformat_any (l := X) (c := c3) true HX.out HC3.out (rd_only HR3b.out H2.out) HXB.out).mono ?_
  rintro x u3 ⟨rfl, m, rfl⟩
  rw [HFX.out]
  have H3 := Lib.hid (H2.out.drewN m)
  go_wp2_with fail
  refine (told_any _).mono ?_
  rintro x u4 ⟨rfl, h4⟩
  have H4 := Lib.hid (H3.out.trans' h4)
  clear h4
  go_wp2_with fail
  go_ret
  exact ⟨rfl, HBk6.out.trans (H4.out.none.mono HBk6.out.size)⟩
theorem lawBlind {H : Type} {enc : TypeId × Value → H} {W : World} {base : Nat} {v0 v1 : Value} {d0 d1 : DataW H} {p0 p1 : List MemPlace} {ts : List TypeId} {ds : List (DataW H)}
    (ov0 : Value.okWide Tryd.prog W .any base 22 v0) (k0 : DataW.Trod enc Tryd.prog W 0 (fun _ => true) true 22 v0 d0 p0)
    (ov1 : Value.okWide Tryd.prog W .any base 22 v1) (k1 : DataW.Trod enc Tryd.prog W 0 (fun _ => true) true 22 v1 d1 p1)
    (_ : (DataW.weightsEach Tryd.prog ts ds).all (· ≤ reachBytes) = true) :
    Calls Tryd.prog 6 #[v0, v1] W fun e w' => e = .returned (.bool true) ∧ Below W.heap.size W w' := by
  obtain ⟨A, c, C, rfl, l1, m1, hC, wC⟩ := open_nums Tryd.underlying22 Tryd.underlying5 (by kernel_rfl) ov0 k0
  obtain ⟨A', c', C', rfl, l1', m1', hC', wC'⟩ := open_nums Tryd.underlying22 Tryd.underlying5 (by kernel_rfl) ov1 k1
  by_cases hs : C.length ≤ 600
  · by_cases hs2 : C'.length ≤ 300
    · exact blind_any hs hC (bytes_of wC) hs2 hC' (bytes_of wC')
    · have h1 : decide ((C.length : Int) > 600) = false := decide_eq_false (by omega)
      have h2 : decide ((C'.length : Int) > 300) = true := decide_eq_true (by omega)
      clear k0 k1 ov0 ov1 hC wC hC' wC'
      go_enter Tryd.func6, Tryd.ntmps6
      go_wp2_with fail
      refine (told_any _).mono ?_
      rintro x w4 ⟨rfl, hb4⟩
      go_wp2_with fail
      go_ret
      exact ⟨rfl, hb4.none⟩
  · have h1 : decide ((C.length : Int) > 600) = true := decide_eq_true (by omega)
    clear k0 k1 ov0 ov1 hC wC hC' wC'
    go_enter Tryd.func6, Tryd.ntmps6
    go_wp2_with fail
    refine (told_any _).mono ?_
    rintro x w4 ⟨rfl, hb4⟩
    go_wp2_with fail
    go_ret
    exact ⟨rfl, hb4.none⟩
end Go.Proofs.YtgleehnmnmmdcaaDoor.Walks
