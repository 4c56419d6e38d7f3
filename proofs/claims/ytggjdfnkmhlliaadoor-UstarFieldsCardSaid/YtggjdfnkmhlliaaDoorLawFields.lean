/- UstarFields: the law's function says yes of every header and field. -/
import Derived.Test.YtggjdfnkmhlliaaDoorOpenH
import Derived.Deep.MidRow
namespace Go.Proofs.YtggjdfnkmhlliaaDoor.Walks
open Go Go.RowKit Go.Proofs.YtggjdfnkmhlliaaDoor.Aid Go.Proofs.YtggjdfnkmhlliaaDoor.Own Go.Proofs.YtggjdfnkmhlliaaDoorW.PrintWords

theorem and15_any (x : Int) : Go.bits .and .i64 x 32767 = x % 32768 := mask_any stays_i64 (i := 15) (by decide) x
theorem and40_any (x : Int) : Go.bits .and .i64 x 1099511627775 = x % 1099511627776 := mask_any stays_i64 (i := 40) (by decide) x
def updH (H : Hdr) (s : Str) (n : Int) (m : Nat) : Hdr := match m with
  | 0 => { H with name := s }
  | 1 => { H with target := s }
  | 2 => { H with user := s }
  | 3 => { H with pre := s }
  | 4 => { H with mode := n % 32768 }
  | _ => { H with size := n % 1099511627776 }
def posF (m : Nat) : Nat := [0, 157, 265, 345, 100, 124].getD m 0
def lenF (m : Nat) : Nat := [100, 100, 32, 155, 8, 12].getD m 0
def tabF : Array Value := #[.int .i64 0, .int .i64 100, .int .i64 157, .int .i64 100, .int .i64 265, .int .i64 32, .int .i64 345, .int .i64 155, .int .i64 100, .int .i64 8, .int .i64 124, .int .i64 12]
theorem two_at {a b : Value} {P : Nat → Value → Prop} (ha : P 0 a) (hb : P 1 b) : ∀ j v, [a, b][j]? = some v → P j v := fun j v h => by
  match j, h with
  | 0, h => injection h with h; rw [← h]; exact ha
  | 1, h => injection h with h; rw [← h]; exact hb
theorem tabF_range (u : World) {m : Nat} (h : m < 6) : (u.alloc (.cells tabF 41)).rangeAt u.heap.size (m * 2) [.int .i64 (posF m : Int), .int .i64 (lenF m : Int)] := fun j v hv => by
  rw [Joins.cell_of_block (alloc_new u (.cells tabF 41)) (m * 2 + j)]
  revert hv
  rcases (show m = 0 ∨ m = 1 ∨ m = 2 ∨ m = 3 ∨ m = 4 ∨ m = 5 by omega) with rfl | rfl | rfl | rfl | rfl | rfl
  · exact two_at (P := fun j v => tabF[0 * 2 + j]? = some v) rfl rfl j v
  · exact two_at (P := fun j v => tabF[1 * 2 + j]? = some v) rfl rfl j v
  · exact two_at (P := fun j v => tabF[2 * 2 + j]? = some v) rfl rfl j v
  · exact two_at (P := fun j v => tabF[3 * 2 + j]? = some v) rfl rfl j v
  · exact two_at (P := fun j v => tabF[4 * 2 + j]? = some v) rfl rfl j v
  · exact two_at (P := fun j v => tabF[5 * 2 + j]? = some v) rfl rfl j v
theorem size41 : (Tryd.prog.info? 41).map (·.size) = some 2 := by kernel_rfl
theorem wh_mod (x : Int) : ∃ m : Nat, (IntKind.u64.wrap x).tmod 6 = (m : Int) ∧ m < 6 := by
  have h : 0 ≤ IntKind.u64.wrap x := by rw [u64_wrap]; omega
  rw [Int.tmod_eq_emod_of_nonneg h]
  exact ⟨(IntKind.u64.wrap x % 6).toNat, by omega, by omega⟩
theorem put_cases (H : Hdr) : (∃ e, putL H = ([], e) ∧ e ≠ 0) ∨ (putL H = (bodyP H, 0) ∧ fitAll H = true ∧ numAll H = true) := by
  unfold putL
  by_cases c1 : fitAll H = true
  · rw [if_pos c1]
    by_cases c2 : numAll H = true
    · rw [if_pos c2]; exact Or.inr ⟨rfl, c1, c2⟩
    · rw [if_neg c2]; exact Or.inl ⟨7, rfl, by decide⟩
  · rw [if_neg c1]; exact Or.inl ⟨1, rfl, by decide⟩
theorem upd_ok {H : Hdr} {s : Str} {n : Int} {m : Nat} (h : HOk H) (hs : s.length ≤ 32) : HOk (updH H s n m) := by
  obtain ⟨h0, h1, h2, h3, h4, h5, h6, h7, h8, h9⟩ := h
  unfold updH
  split
  · exact ⟨by show s.length ≤ 1000; omega, h1, h2, h3, h4, h5, h6, h7, h8, h9⟩
  · exact ⟨h0, h1, by show s.length ≤ 1000; omega, h3, h4, h5, h6, h7, h8, h9⟩
  · exact ⟨h0, h1, h2, by show s.length ≤ 1000; omega, h4, h5, h6, h7, h8, h9⟩
  · exact ⟨h0, by show s.length ≤ 1000; omega, h2, h3, h4, h5, h6, h7, h8, h9⟩
  · exact ⟨h0, h1, h2, h3, h4, by show -9223372036854775808 ≤ n % 32768 ∧ n % 32768 ≤ 9223372036854775807; omega, h6, h7, h8, h9⟩
  · exact ⟨h0, h1, h2, h3, h4, h5, h6, h7, by show -9223372036854775808 ≤ n % 1099511627776 ∧ n % 1099511627776 ≤ 9223372036854775807; omega, h9⟩
theorem pos_len {m : Nat} (h : m < 6) : posF m + lenF m ≤ 512 := by
  rcases (show m = 0 ∨ m = 1 ∨ m = 2 ∨ m = 3 ∨ m = 4 ∨ m = 5 by omega) with rfl | rfl | rfl | rfl | rfl | rfl <;> decide
theorem max_only_one {u v : World} {g : Nat} (h : MaxLen u) (ho : Only (fun k => k = g) u v) (hg : 0 < g) : MaxLen v := by
  obtain ⟨m, hm⟩ := h
  exact ⟨m, ho.cell hm (show ¬ 0 = g by omega)⟩
theorem fields_near {H : Hdr} {s : Str} {n : Int} {m : Nat} (hm : m < 6) (hs : s.length ≤ 32) (hf : fitAll H = true) (hn : numAll H = true) (hfk : fitAll (updH H s n m) = true) (hnk : numAll (updH H s n m) = true) (i : Nat) (hi : i < 512) (hp : ¬ (posF m ≤ i ∧ i < posF m + lenF m)) (hq : ¬ (148 ≤ i ∧ i < 156)) :
    (bodyP H).getD i 0 = (bodyP (updH H s n m)).getD i 0 := by
  have h := body_is hf hn
  have h' := body_is hfk hnk
  have z1 : ((putOct (sumOf (bodyP H)) 7).1 ++ [32]).length ≤ 8 := (h.placed.2 14 (by decide)).2
  have z2 : ((putOct (sumOf (bodyP (updH H s n m))) 7).1 ++ [32]).length ≤ 8 := (h'.placed.2 14 (by decide)).2
  have e1 := congrArg (fun l : Str => l.getD i 0) h.all
  have e2 := congrArg (fun l : Str => l.getD i 0) h'.all
  refine e1.trans (Eq.trans ?_ e2.symm)
  refine putAll_congr (m := 512) List.length_replicate List.length_replicate h.placed.fit h'.placed.fit ?_ rfl
  have p1 := h.placed.2
  have p2 := h'.placed.2
  clear h h' e1 e2 hf hn hfk hnk
  generalize (putOct (sumOf (bodyP H)) 7).1 ++ [32] = u1 at *
  generalize (putOct (sumOf (bodyP (updH H s n m))) 7).1 ++ [32] = u2 at *
  have hz : (i < 148 ∨ 148 + u1.length ≤ i) ∧ (i < 148 ∨ 148 + u2.length ≤ i) := by omega
  rcases (show m = 0 ∨ m = 1 ∨ m = 2 ∨ m = 3 ∨ m = 4 ∨ m = 5 by omega) with rfl | rfl | rfl | rfl | rfl | rfl
  · have l1 : H.name.length ≤ 100 := (p1 0 (by decide)).2
    have l2 : s.length ≤ 100 := (p2 0 (by decide)).2
    replace hp : ¬ (0 ≤ i ∧ i < 0 + 100) := hp
    have hw : (i < 0 ∨ 0 + H.name.length ≤ i) ∧ (i < 0 ∨ 0 + s.length ≤ i) := by omega
    exact ⟨Or.inr hw, Or.inl rfl, Or.inl rfl, Or.inl rfl, Or.inl rfl, Or.inl rfl, Or.inl rfl, Or.inl rfl, Or.inl rfl, Or.inl rfl, Or.inl rfl, Or.inl rfl, Or.inl rfl, Or.inl rfl, Or.inr hz, trivial⟩
  · have l1 : H.target.length ≤ 100 := (p1 1 (by decide)).2
    have l2 : s.length ≤ 100 := (p2 1 (by decide)).2
    replace hp : ¬ (157 ≤ i ∧ i < 157 + 100) := hp
    have hw : (i < 157 ∨ 157 + H.target.length ≤ i) ∧ (i < 157 ∨ 157 + s.length ≤ i) := by omega
    exact ⟨Or.inl rfl, Or.inr hw, Or.inl rfl, Or.inl rfl, Or.inl rfl, Or.inl rfl, Or.inl rfl, Or.inl rfl, Or.inl rfl, Or.inl rfl, Or.inl rfl, Or.inl rfl, Or.inl rfl, Or.inl rfl, Or.inr hz, trivial⟩
  · have l1 : H.user.length ≤ 32 := (p1 3 (by decide)).2
    have l2 : s.length ≤ 32 := (p2 3 (by decide)).2
    replace hp : ¬ (265 ≤ i ∧ i < 265 + 32) := hp
    have hw : (i < 265 ∨ 265 + H.user.length ≤ i) ∧ (i < 265 ∨ 265 + s.length ≤ i) := by omega
    exact ⟨Or.inl rfl, Or.inl rfl, Or.inl rfl, Or.inr hw, Or.inl rfl, Or.inl rfl, Or.inl rfl, Or.inl rfl, Or.inl rfl, Or.inl rfl, Or.inl rfl, Or.inl rfl, Or.inl rfl, Or.inl rfl, Or.inr hz, trivial⟩
  · have l1 : H.pre.length ≤ 155 := (p1 5 (by decide)).2
    have l2 : s.length ≤ 155 := (p2 5 (by decide)).2
    replace hp : ¬ (345 ≤ i ∧ i < 345 + 155) := hp
    have hw : (i < 345 ∨ 345 + H.pre.length ≤ i) ∧ (i < 345 ∨ 345 + s.length ≤ i) := by omega
    exact ⟨Or.inl rfl, Or.inl rfl, Or.inl rfl, Or.inl rfl, Or.inl rfl, Or.inr hw, Or.inl rfl, Or.inl rfl, Or.inl rfl, Or.inl rfl, Or.inl rfl, Or.inl rfl, Or.inl rfl, Or.inl rfl, Or.inr hz, trivial⟩
  · have l1 : (putOct H.mode 8).1.length ≤ 8 := (p1 7 (by decide)).2
    have l2 : (putOct (n % 32768) 8).1.length ≤ 8 := (p2 7 (by decide)).2
    replace hp : ¬ (100 ≤ i ∧ i < 100 + 8) := hp
    have hw : (i < 100 ∨ 100 + (putOct H.mode 8).1.length ≤ i) ∧ (i < 100 ∨ 100 + (putOct (n % 32768) 8).1.length ≤ i) := by omega
    exact ⟨Or.inl rfl, Or.inl rfl, Or.inl rfl, Or.inl rfl, Or.inl rfl, Or.inl rfl, Or.inl rfl, Or.inr hw, Or.inl rfl, Or.inl rfl, Or.inl rfl, Or.inl rfl, Or.inl rfl, Or.inl rfl, Or.inr hz, trivial⟩
  · have l1 : (putOct H.size 12).1.length ≤ 12 := (p1 10 (by decide)).2
    have l2 : (putOct (n % 1099511627776) 12).1.length ≤ 12 := (p2 10 (by decide)).2
    replace hp : ¬ (124 ≤ i ∧ i < 124 + 12) := hp
    have hw : (i < 124 ∨ 124 + (putOct H.size 12).1.length ≤ i) ∧ (i < 124 ∨ 124 + (putOct (n % 1099511627776) 12).1.length ≤ i) := by omega
    exact ⟨Or.inl rfl, Or.inl rfl, Or.inl rfl, Or.inl rfl, Or.inl rfl, Or.inl rfl, Or.inl rfl, Or.inl rfl, Or.inl rfl, Or.inl rfl, Or.inr hw, Or.inl rfl, Or.inl rfl, Or.inl rfl, Or.inr hz, trivial⟩
set_option maxRecDepth 100000 in
set_option maxHeartbeats 4000000 in
theorem fields_any (H : Hdr) (s : Str) (wh n0 : Int) (w : World) (hin : HIn H) (hm : MaxLen w) : Calls Tryd.prog 5 #[hval H, .int .i64 wh, .string (B s), .int .i64 n0] w (BoolPost true w) := by
  have HIn := Lib.hid hin
  have HO := Lib.hid ((Only.refl (fun _ => False) w).alloc (.cells (hrow H) 24))
  have hb := alloc_new w (.cells (hrow H) 24)
  obtain ⟨g1, hg1⟩ : ∃ g1, w.heap.size = g1 := ⟨_, rfl⟩
  obtain ⟨W, hW⟩ : ∃ W, w.alloc (.cells (hrow H) 24) = W := ⟨_, rfl⟩
  rw [hW, hg1] at hb
  rw [hW] at HO
  have HBk := Lib.hid hb
  have HGW := Lib.hid (And.intro hg1 hW)
  have HMW := Lib.hid (hm.only HO.out)
  have c0 : W.cell? ⟨g1, 0, none⟩ = some (.string (B H.name)) := Joins.cell_of_block hb 0
  have c1 : W.cell? ⟨g1, 1, none⟩ = some (.string (B H.pre)) := Joins.cell_of_block hb 1
  have c2 : W.cell? ⟨g1, 2, none⟩ = some (.string (B H.target)) := Joins.cell_of_block hb 2
  have c9 : W.cell? ⟨g1, 9, none⟩ = some (.string (B H.user)) := Joins.cell_of_block hb 9
  have c10 : W.cell? ⟨g1, 10, none⟩ = some (.string (B H.group)) := Joins.cell_of_block hb 10
  obtain ⟨S, hS⟩ : ∃ S, B s = S := ⟨_, rfl⟩
  have HSS := Lib.hid (show S.size = s.length by rw [← hS, B_size])
  have HSB := Lib.hid hS
  rw [hS]
  clear hg1 hW hb hm hin hS
  go_enter Tryd.func5, Tryd.ntmps5
  go_upto_region 1 with (fail)
  change Code.wp Tryd.prog _ _ _ (w.alloc (.cells (hrow H) 24))
  rw [HGW.out.2, HGW.out.1]
  by_cases a0 : S.size ≤ 32
  · have e0 : decide (((S.size : Nat) : Int) > 32) = false := decide_eq_false (by omega)
    have e0' : decide (32 < S.size) = false := decide_eq_false (by omega)
    by_cases a1 : (B H.name).size ≤ 100
    · have e1 : decide ((((B H.name).size : Nat) : Int) > 100) = false := decide_eq_false (by omega)
      have e1' : decide (100 < (B H.name).size) = false := decide_eq_false (by omega)
      by_cases a2 : (B H.pre).size ≤ 155
      · have e2 : decide ((((B H.pre).size : Nat) : Int) > 155) = false := decide_eq_false (by omega)
        have e2' : decide (155 < (B H.pre).size) = false := decide_eq_false (by omega)
        by_cases a3 : (B H.target).size ≤ 100
        · have e3 : decide ((((B H.target).size : Nat) : Int) > 100) = false := decide_eq_false (by omega)
          have e3' : decide (100 < (B H.target).size) = false := decide_eq_false (by omega)
          by_cases a4 : (B H.user).size ≤ 32
          · have e4 : decide ((((B H.user).size : Nat) : Int) > 32) = false := decide_eq_false (by omega)
            have e4' : decide (32 < (B H.user).size) = false := decide_eq_false (by omega)
            by_cases a5 : (B H.group).size ≤ 32
            · have e5 : decide ((((B H.group).size : Nat) : Int) > 32) = false := decide_eq_false (by omega)
              have e5' : decide (32 < (B H.group).size) = false := decide_eq_false (by omega)
              have hH : HOk H := HIn.out.ok (n := 155) (by decide) (by rw [← B_size]; omega) (by rw [← B_size]; omega) (by rw [← B_size]; omega) (by rw [← B_size]; omega) (by rw [← B_size]; omega)
              have HHk := Lib.hid hH
              have HP1 := Lib.hid (fun u => put_any (H := H) u hH)
              have HSL := Lib.hid (show s.length ≤ 32 by rw [← HSS.out]; exact a0)
              clear a0 a1 a2 a3 a4 a5 hH
              go_upto_region 4 with (first
                | (with_reducible refine gate 50 rfl ?_; refine load_hdr rfl _ rfl rfl HBk.out ?_)
                | ((with_reducible refine gate_store 24 rfl ?_); refine store_new (H0 := hdr0) rfl H _ _ rfl rfl rfl ?_; intro w3 hb3 ho3))
              obtain ⟨m, hm6, hm5⟩ := wh_mod wh
              have hmi : (m : Int) < 6 := by omega
              have HR := Lib.hid (fun u => tabF_range u hm5)
              have HM5 := Lib.hid hm5
              have H3 := Lib.hid ho3
              have hb3' := hb3
              obtain ⟨g9, hg9⟩ : ∃ g9, W.heap.size = g9 := ⟨_, rfl⟩
              rw [hg9] at hb3 ⊢
              have HB9 := Lib.hid hb3
              have HW9 := Lib.hid (show w.heap.size ≤ g9 by rw [← hg9]; exact HO.out.size)
              have H90 := Lib.hid (show 0 < g9 by rw [← hg9]; exact Nat.lt_of_le_of_lt (Nat.zero_le _) (Only.heap_lt HBk.out))
              have H19 := Lib.hid (show g1 < g9 ∧ g9 < w3.heap.size by rw [← hg9]; exact ⟨Only.heap_lt HBk.out, Only.heap_lt hb3'⟩)
              clear hb3 hb3' hg9 ho3 c0 c1 c2 c9 c10
              go_upto_block 0 with (first
                | (with_reducible refine gate 63 rfl ?_
                   refine wpList_load_mid rfl 41 (.tmp 62) rfl w3.heap.size (m * 2) rfl _ _ (HR.out w3) Tryd.underlying41 rfl size41 ?_))
              change Code.wp Tryd.prog _ _ _ ((w3.alloc (.cells tabF 41)).alloc (.cells #[.int .i64 (posF m : Int), .int .i64 (lenF m : Int)] 41))
              have HBx := Lib.hid (show ((w3.alloc (.cells tabF 41)).alloc (.cells #[.int .i64 (posF m : Int), .int .i64 (lenF m : Int)] 41)).heap[w3.heap.size + 1]? = some (.cells #[.int .i64 (posF m : Int), .int .i64 (lenF m : Int)] 41 (0, 0)) by have := alloc_new (w3.alloc (.cells tabF 41)) (.cells #[.int .i64 (posF m : Int), .int .i64 (lenF m : Int)] 41); rwa [alloc_size] at this)
              have HU := Lib.hid (((Only.refl (fun _ => False) w3).alloc (.cells tabF 41)).alloc (.cells #[.int .i64 (posF m : Int), .int .i64 (lenF m : Int)] 41))
              obtain ⟨U, hU⟩ : ∃ U, (w3.alloc (.cells tabF 41)).alloc (.cells #[.int .i64 (posF m : Int), .int .i64 (lenF m : Int)] 41) = U := ⟨_, rfl⟩
              obtain ⟨gt, hgt⟩ : ∃ gt, w3.heap.size = gt := ⟨_, rfl⟩
              rw [hU, hgt] at HBx ⊢
              obtain ⟨gx, hgx⟩ : ∃ gx, gt + 1 = gx := ⟨_, rfl⟩
              rw [hgx] at HBx ⊢
              rw [hU] at HU
              have HGX := Lib.hid (show g9 < gx by have := H19.out; omega)
              replace HB9 := Lib.hid (HU.out.keeps HB9.out id)
              replace H3 := Lib.hid (H3.out.trans' HU.out)
              replace H19 := Lib.hid H19.out.1
              clear hU hgx hgt HU HR
              clear w3
              go_cut [] (fun wx => ∃ K : Hdr, Hid (K = updH H s n0 m) ∧ Hid (wx.heap[g9]? = some (.cells (hrow K) 24 (0, 0))) ∧ Hid (Only (fun k => k = g9) U wx))
              case first =>
                have hn15 := and15_any n0
                have hn40 := and40_any n0
                rcases (show m = 0 ∨ m = 1 ∨ m = 2 ∨ m = 3 ∨ m = 4 ∨ m = 5 by omega) with rfl | rfl | rfl | rfl | rfl | rfl
                · have cc : U.cell? ⟨g9, 0, none⟩ = some (.string (B H.name)) := Joins.cell_of_block HB9.out 0
                  have fc := Joins.unfrozen_of_block HB9.out 0
                  go_wp2_with fail
                  go_meet
                  exact ⟨updH H s n0 0, Lib.hid rfl, Lib.hid (by have h9 := heap_setCell_same U g9 0 (hrow H) 24 (.string S) HB9.out; rw [h9]; rw [← HSB.out]; rfl), Lib.hid ((Only.refl (fun k => k = g9) U).setCell (p := ⟨g9, 0, none⟩) (Or.inl rfl) _)⟩
                · have cc : U.cell? ⟨g9, 2, none⟩ = some (.string (B H.target)) := Joins.cell_of_block HB9.out 2
                  have fc := Joins.unfrozen_of_block HB9.out 2
                  go_wp2_with fail
                  go_meet
                  exact ⟨updH H s n0 1, Lib.hid rfl, Lib.hid (by have h9 := heap_setCell_same U g9 2 (hrow H) 24 (.string S) HB9.out; rw [h9]; rw [← HSB.out]; rfl), Lib.hid ((Only.refl (fun k => k = g9) U).setCell (p := ⟨g9, 2, none⟩) (Or.inl rfl) _)⟩
                · have cc : U.cell? ⟨g9, 9, none⟩ = some (.string (B H.user)) := Joins.cell_of_block HB9.out 9
                  have fc := Joins.unfrozen_of_block HB9.out 9
                  go_wp2_with fail
                  go_meet
                  exact ⟨updH H s n0 2, Lib.hid rfl, Lib.hid (by have h9 := heap_setCell_same U g9 9 (hrow H) 24 (.string S) HB9.out; rw [h9]; rw [← HSB.out]; rfl), Lib.hid ((Only.refl (fun k => k = g9) U).setCell (p := ⟨g9, 9, none⟩) (Or.inl rfl) _)⟩
                · have cc : U.cell? ⟨g9, 1, none⟩ = some (.string (B H.pre)) := Joins.cell_of_block HB9.out 1
                  have fc := Joins.unfrozen_of_block HB9.out 1
                  go_wp2_with fail
                  go_meet
                  exact ⟨updH H s n0 3, Lib.hid rfl, Lib.hid (by have h9 := heap_setCell_same U g9 1 (hrow H) 24 (.string S) HB9.out; rw [h9]; rw [← HSB.out]; rfl), Lib.hid ((Only.refl (fun k => k = g9) U).setCell (p := ⟨g9, 1, none⟩) (Or.inl rfl) _)⟩
                · have cc : U.cell? ⟨g9, 3, none⟩ = some (.int .i64 H.mode) := Joins.cell_of_block HB9.out 3
                  have fc := Joins.unfrozen_of_block HB9.out 3
                  go_wp2_with fail
                  go_meet
                  exact ⟨updH H s n0 4, Lib.hid rfl, Lib.hid (by have h9 := heap_setCell_same U g9 3 (hrow H) 24 (.int .i64 (n0 % 32768)) HB9.out; rw [h9]; rfl), Lib.hid ((Only.refl (fun k => k = g9) U).setCell (p := ⟨g9, 3, none⟩) (Or.inl rfl) _)⟩
                · have cc : U.cell? ⟨g9, 6, none⟩ = some (.int .i64 H.size) := Joins.cell_of_block HB9.out 6
                  have fc := Joins.unfrozen_of_block HB9.out 6
                  go_wp2_with fail
                  go_meet
                  exact ⟨updH H s n0 5, Lib.hid rfl, Lib.hid (by have h9 := heap_setCell_same U g9 6 (hrow H) 24 (.int .i64 (n0 % 1099511627776)) HB9.out; rw [h9]; rfl), Lib.hid ((Only.refl (fun k => k = g9) U).setCell (p := ⟨g9, 6, none⟩) (Or.inl rfl) _)⟩
              case rest =>
                obtain ⟨K, HK, HB9c, HOc⟩ := hcut
                have HKk := Lib.hid (show HOk K by rw [HK.out]; exact upd_ok HHk.out HSL.out)
                have HPK := Lib.hid (fun u => put_any (H := K) u HKk.out)
                have HBxc := Lib.hid (HOc.out.keeps HBx.out (show ¬ gx = g9 by have := HGX.out; omega))
                have HBc := Lib.hid (HOc.out.keeps (H3.out.keeps HBk.out id) (show ¬ g1 = g9 by have := H19.out; omega))
                have HMc := Lib.hid (max_only_one (HMW.out.only H3.out) HOc.out H90.out)
                have HWc := Lib.hid ((HO.out.trans' H3.out).trans HOc.out (fun k hk => Or.inr (by rw [hk]; exact HW9.out)))
                clear HB9 HBx HOc H3 HBk
                clear hm6 hm5 hmi
                go_wp2_with (first
                  | (with_reducible refine gate 93 rfl ?_; refine load_hdr rfl _ rfl rfl HBc.out ?_))
                refine (HP1.out _).mono ?_
                rintro x w1 ⟨A1, m1, cA, rfl, h1, h2, h3, h4⟩
                have HN1 := Lib.hid h1
                have HC1 := Lib.hid h2
                have HR1 := Lib.hid h3
                have H1 := Lib.hid h4
                clear h1 h2 h3 h4
                go_wp2_with (first
                  | (with_reducible refine gate 98 rfl ?_; refine load_hdr rfl _ rfl rfl (H1.out.keeps HB9c.out id) ?_))
                refine (HPK.out _).mono ?_
                rintro x w2 ⟨A2, m2, cB, rfl, h1, h2, h3, h4⟩
                have HN2 := Lib.hid h1
                have HR2 := Lib.hid h3
                have H2 := Lib.hid (H1.out.trans' h4)
                replace HR1 := Lib.hid (HR1.out.only h4)
                clear h1 h2 h3 h4
                have HT := Lib.hid (told_any w2 (HMc.out.only H2.out))
                rcases put_cases H with ⟨e0, he0, hne⟩ | ⟨hp, hf, hn⟩
                · rw [he0]
                  have d0 : (e0 != 0) = true := bne_iff_ne.mpr hne
                  clear he0 hne HP1 HR1
                  go_wp2_with fail
                  refine HT.out.mono ?_
                  rintro x w4 ⟨rfl, hb4⟩
                  have HF := Lib.hid ((HWc.out.trans' H2.out).trans' hb4)
                  go_wp2_with fail
                  go_ret
                  exact ⟨rfl, HF.out⟩
                rcases put_cases K with ⟨e1, he1, hne⟩ | ⟨hpk, hfk, hnk⟩
                · rw [hp, he1]
                  have d0 : (e1 != 0) = true := bne_iff_ne.mpr hne
                  clear he1 hne HP1 HR1 hp hf hn
                  go_wp2_with fail
                  refine HT.out.mono ?_
                  rintro x w4 ⟨rfl, hb4⟩
                  have HF := Lib.hid ((HWc.out.trans' H2.out).trans' hb4)
                  go_wp2_with fail
                  go_ret
                  exact ⟨rfl, HF.out⟩
                rw [hp] at HN1 HR1 ⊢
                rw [hpk] at HN2 HR2 ⊢
                have HI1 := body_is hf hn
                have HI2 := body_is hfk hnk
                have HNear := Lib.hid (show ∀ i, i < 512 → ¬ (posF m ≤ i ∧ i < posF m + lenF m) → ¬ (148 ≤ i ∧ i < 156) → (bodyP H).getD i 0 = (bodyP K).getD i 0 from by rw [HK.out]; exact fields_near HM5.out HSL.out hf hn (by rw [← HK.out]; exact hfk) (by rw [← HK.out]; exact hnk))
                obtain ⟨b1, hb1⟩ : ∃ b1, bodyP H = b1 := ⟨_, rfl⟩
                obtain ⟨b2, hb2⟩ : ∃ b2, bodyP K = b2 := ⟨_, rfl⟩
                rw [hb1] at HN1 HR1 HNear HI1
                rw [hb2] at HN2 HR2 HNear HI2
                obtain rfl : m1 = 512 := HN1.out.symm.trans HI1.len
                obtain rfl : m2 = 512 := HN2.out.symm.trans HI2.len
                obtain ⟨ad1, eA1, hc1⟩ := HR1.out.cells (by rw [HN1.out]; decide)
                obtain ⟨ad2, eA2, hc2⟩ := HR2.out.cells (by rw [HN2.out]; decide)
                subst eA1 eA2
                have HC1' := Lib.hid hc1
                have HC2' := Lib.hid hc2
                have HBxd := Lib.hid (H2.out.keeps HBxc.out id)
                have HPL := Lib.hid (pos_len HM5.out)
                obtain ⟨P, hP⟩ : ∃ P, posF m = P := ⟨_, rfl⟩
                obtain ⟨L, hL⟩ : ∃ L, lenF m = L := ⟨_, rfl⟩
                rw [hP, hL] at HNear HPL HBxd
                clear hp hf hn hpk hfk hnk hb1 hb2 HI1 HI2 hc1 hc2 hP hL HP1 HPK HT
                go_wp2_with fail
                go_loopw [15] (fun v15 u => ∃ i : Nat, v15 = .int .i64 (i : Int) ∧ i ≤ 512 ∧ Hid (Only (fun _ => False) w2 u)) (fun i _ => 512 - (intOf i).toNat)
                case atStart => exact ⟨0, rfl, by omega, Lib.hid (Only.refl _ _)⟩
                case round =>
                  obtain ⟨i, rfl, hi, HU⟩ := hrel
                  by_cases ci : i < 512
                  · have d1 : decide ((i : Int) < 512) = true := decide_eq_true (by omega)
                    have d2 : (i : Int) < 512 := by omega
                    have ca := HU.out.cell (HC1'.out i (by rw [HN1.out]; exact ci)) id
                    have cb := HU.out.cell (HC2'.out i (by rw [HN2.out]; exact ci)) id
                    have cp := HU.out.cell (show w2.cell? ⟨gx, 0, none⟩ = some (.int .i64 (P : Int)) from Joins.cell_of_block HBxd.out 0) id
                    have cl := HU.out.cell (show w2.cell? ⟨gx, 1, none⟩ = some (.int .i64 (L : Int)) from Joins.cell_of_block HBxd.out 1) id
                    have HNi := Lib.hid (HNear.out i ci)
                    have hpl : P + L ≤ 512 := HPL.out
                    obtain ⟨x, hx⟩ : ∃ x, b1.getD i 0 = x := ⟨_, rfl⟩
                    obtain ⟨y, hy⟩ : ∃ y, b2.getD i 0 = y := ⟨_, rfl⟩
                    rw [hx] at ca HNi
                    rw [hy] at cb HNi
                    clear hx hy
                    have q1 : (P : Int) + (L : Int) ≤ 512 := by omega
                    have q4 : IntKind.i64.wrap ((P : Int) + (L : Int)) = (P : Int) + (L : Int) := by rw [IntKind.wrap_i64]; omega
                    by_cases cx : x = y
                    · have t1 : ((x.toNat : Int) != (y.toNat : Int)) = false := by rw [cx]; simp
                      clear cx HNi
                      go_upto_region 26 with (fail)
                      go_quiet (fail)
                      go_wp2_with fail
                      exact ⟨⟨i + 1, by simp, by omega, Lib.hid (HU.out.drewN _)⟩, by simp [intOf]; omega⟩
                    · have t1 : ((x.toNat : Int) != (y.toNat : Int)) = true := bne_iff_ne.mpr (fun e => cx (UInt8.toNat.inj (by exact_mod_cast e)))
                      by_cases cr : P ≤ i ∧ i < P + L
                      · have t2 : decide ((i : Int) ≥ (P : Int)) = true := decide_eq_true (by omega)
                        have t2' : decide (P ≤ i) = true := decide_eq_true (by omega)
                        have t3 : decide ((i : Int) < (P : Int) + (L : Int)) = true := decide_eq_true (by omega)
                        clear cx HNi cr
                        go_upto_region 26 with (fail)
                        go_quiet (fail)
                        go_wp2_with fail
                        exact ⟨⟨i + 1, by simp, by omega, Lib.hid (HU.out.drewN _)⟩, by simp [intOf]; omega⟩
                      · have cs : 148 ≤ i ∧ i < 156 := by
                          by_cases cs : 148 ≤ i ∧ i < 156
                          · exact cs
                          · exact absurd (HNi.out cr cs) cx
                        have t4 : decide ((i : Int) ≥ 148) = true := decide_eq_true (by omega)
                        have t5 : decide ((i : Int) < 156) = true := decide_eq_true (by omega)
                        by_cases cq : P ≤ i
                        · have t2 : decide ((i : Int) ≥ (P : Int)) = true := decide_eq_true (by omega)
                          have t2' : decide (P ≤ i) = true := decide_eq_true (by omega)
                          have t3 : decide ((i : Int) < (P : Int) + (L : Int)) = false := decide_eq_false (by omega)
                          clear cx HNi cr cs cq
                          go_upto_region 26 with (fail)
                          go_quiet (fail)
                          go_wp2_with fail
                          exact ⟨⟨i + 1, by simp, by omega, Lib.hid (HU.out.drewN _)⟩, by simp [intOf]; omega⟩
                        · have t2 : decide ((i : Int) ≥ (P : Int)) = false := decide_eq_false (by omega)
                          have t2' : decide (P ≤ i) = false := decide_eq_false (by omega)
                          clear cx HNi cr cs cq
                          go_upto_region 26 with (fail)
                          go_quiet (fail)
                          go_wp2_with fail
                          exact ⟨⟨i + 1, by simp, by omega, Lib.hid (HU.out.drewN _)⟩, by simp [intOf]; omega⟩
                  · have d1 : decide ((i : Int) < 512) = false := decide_eq_false (by omega)
                    have HT := Lib.hid (told_any wr ((HMc.out.only H2.out).only HU.out))
                    have hss : (sumOf b1 == sumOf b1) = true := beq_self_eq_true _
                    have HRu := Lib.hid (HR1.out.only HU.out)
                    obtain ⟨z, hz⟩ : ∃ z, sumOf b1 = z := ⟨_, rfl⟩
                    have HSa := Lib.hid (fun u (h : RdU u (some ad1) b1) => rsum_any (c := cA) HN1.out h)
                    have HSb := Lib.hid (fun u (h : RdU u (some ad1) b1) => sum_any (c := cA) HN1.out h)
                    rw [hz] at hss HSa HSb
                    clear hz
                    go_wp2_with fail
                    refine HT.out.mono ?_
                    rintro x w4 ⟨rfl, hb4⟩
                    have HF := Lib.hid (((HWc.out.trans' H2.out).trans' HU.out).trans' hb4)
                    have HRv := Lib.hid (HRu.out.only hb4)
                    clear hb4
                    go_wp2_with (first
                      | (go_at_call 10; refine (HSa.out _ HRv.out).mono ?_; rintro x w4 ⟨rfl, rfl⟩)
                      | (go_at_call 13; refine (HSb.out _ HRv.out).mono ?_; rintro x w4 ⟨rfl, rfl⟩))
                    go_ret
                    exact ⟨rfl, HF.out⟩
            · have e5 : decide ((((B H.group).size : Nat) : Int) > 32) = true := decide_eq_true (by omega)
              have e5' : decide (32 < (B H.group).size) = true := decide_eq_true (by omega)
              go_wp2_with fail
              refine (told_any _ HMW.out).mono ?_
              rintro x w4 ⟨rfl, hb4⟩
              have HF := Lib.hid (HO.out.trans' hb4)
              go_wp2_with fail
              go_ret
              exact ⟨rfl, HF.out⟩
          · have e4 : decide ((((B H.user).size : Nat) : Int) > 32) = true := decide_eq_true (by omega)
            have e4' : decide (32 < (B H.user).size) = true := decide_eq_true (by omega)
            go_wp2_with fail
            refine (told_any _ HMW.out).mono ?_
            rintro x w4 ⟨rfl, hb4⟩
            have HF := Lib.hid (HO.out.trans' hb4)
            go_wp2_with fail
            go_ret
            exact ⟨rfl, HF.out⟩
        · have e3 : decide ((((B H.target).size : Nat) : Int) > 100) = true := decide_eq_true (by omega)
          have e3' : decide (100 < (B H.target).size) = true := decide_eq_true (by omega)
          go_wp2_with fail
          refine (told_any _ HMW.out).mono ?_
          rintro x w4 ⟨rfl, hb4⟩
          have HF := Lib.hid (HO.out.trans' hb4)
          go_wp2_with fail
          go_ret
          exact ⟨rfl, HF.out⟩
      · have e2 : decide ((((B H.pre).size : Nat) : Int) > 155) = true := decide_eq_true (by omega)
        have e2' : decide (155 < (B H.pre).size) = true := decide_eq_true (by omega)
        go_wp2_with fail
        refine (told_any _ HMW.out).mono ?_
        rintro x w4 ⟨rfl, hb4⟩
        have HF := Lib.hid (HO.out.trans' hb4)
        go_wp2_with fail
        go_ret
        exact ⟨rfl, HF.out⟩
    · have e1 : decide ((((B H.name).size : Nat) : Int) > 100) = true := decide_eq_true (by omega)
      have e1' : decide (100 < (B H.name).size) = true := decide_eq_true (by omega)
      go_wp2_with fail
      refine (told_any _ HMW.out).mono ?_
      rintro x w4 ⟨rfl, hb4⟩
      have HF := Lib.hid (HO.out.trans' hb4)
      go_wp2_with fail
      go_ret
      exact ⟨rfl, HF.out⟩
  · have e0 : decide (((S.size : Nat) : Int) > 32) = true := decide_eq_true (by omega)
    have e0' : decide (32 < S.size) = true := decide_eq_true (by omega)
    go_wp2_with fail
    refine (told_any _ HMW.out).mono ?_
    rintro x w4 ⟨rfl, hb4⟩
    have HF := Lib.hid (HO.out.trans' hb4)
    go_wp2_with fail
    go_ret
    exact ⟨rfl, HF.out⟩
theorem lawFields {H : Type} {enc : TypeId × Value → H} {W : World} {base : Nat} {v0 v1 v2 v3 : Value} {d0 d1 d2 d3 : DataW H} {p0 p1 p2 p3 : List MemPlace} {ts : List TypeId} {ds : List (DataW H)} (hm : MaxLen W)
    (ov0 : Value.okWide Tryd.prog W .any base 24 v0) (k0 : DataW.Trod enc Tryd.prog W 0 (fun _ => true) true 24 v0 d0 p0)
    (ov1 : Value.okWide Tryd.prog W .any base 3 v1) (k1 : DataW.Trod enc Tryd.prog W 0 (fun _ => true) true 3 v1 d1 p1)
    (ov2 : Value.okWide Tryd.prog W .any base 9 v2) (k2 : DataW.Trod enc Tryd.prog W 0 (fun _ => true) true 9 v2 d2 p2)
    (ov3 : Value.okWide Tryd.prog W .any base 3 v3) (k3 : DataW.Trod enc Tryd.prog W 0 (fun _ => true) true 3 v3 d3 p3)
    (_ : (DataW.weightsEach Tryd.prog ts ds).all (· ≤ reachBytes) = true) :
    Calls Tryd.prog 5 #[v0, v1, v2, v3] W fun e w' => e = .returned (.bool true) ∧ Below W.heap.size W w' := by
  obtain ⟨K, rfl, hin⟩ := open_hdr ov0 k0
  obtain ⟨n1, rfl, _, _, _⟩ := Go.ChangeShapes.open_int Tryd.underlying3 ov1 k1
  obtain ⟨S, rfl, _, _, _⟩ := Go.ChangeMaps.open_string Tryd.underlying9 ov2 k2
  obtain ⟨n3, rfl, _, _, _⟩ := Go.ChangeShapes.open_int Tryd.underlying3 ov3 k3
  have := fields_any K S.data.toList n1 n3 W hin hm
  rw [data_B] at this
  exact this.mono fun x w' h => ⟨h.1, h.2.none⟩
end Go.Proofs.YtggjdfnkmhlliaaDoor.Walks
