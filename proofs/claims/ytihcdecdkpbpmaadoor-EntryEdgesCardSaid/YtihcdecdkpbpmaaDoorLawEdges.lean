/- EntryEdges. -/
import Derived.Test.YtihcdecdkpbpmaaDoorTold
import Derived.Test.YtihcdecdkpbpmaaDoorGrt
import Derived.Test.YtihcdecdkpbpmaaDoorOpenE
import Derived.Test.YtihcdecdkpbpmaaDoorLater
import Derived.Test.YtihcdecdkpbpmaaDoorOwnB
import Derived.Test.YtihcdecdkpbpmaaDoorFloat
import Derived.StillTailTactics
import Derived.Deep.RegionHeld3
namespace Go.Proofs.YtihcdecdkpbpmaaDoor.Walks
open Go Ieee Go.RowKit Go.Proofs.YtihcdecdkpbpmaaDoor.Aid Go.Proofs.YtihcdecdkpbpmaaDoor.Pth Go.Proofs.YtihcdecdkpbpmaaDoor.Own Go.Proofs.YtihcdecdkpbpmaaDoorW.PrintWords

/-- Two variables of an entry are made, then both are written. -/
theorem two_store (w1 : World) (E : Ent) (A : Option Addr) (c : Nat) (i j : Nat) (hij : i = w1.heap.size ∧ j = w1.heap.size + 1 ∨ i = w1.heap.size + 1 ∧ j = w1.heap.size) : ∃ X1 X2,
    (storeVar 32 ⟨i, 0, none⟩ (eval E A c)).run Tryd.prog ((w1.alloc (.cells #[.string ⟨#[]⟩, .int .i64 0, .int .i64 0, .int .i64 0, .int .i64 0, .float .f64 0, .string ⟨#[]⟩, .slice none 0 0] 32)).alloc (.cells #[.string ⟨#[]⟩, .int .i64 0, .int .i64 0, .int .i64 0, .int .i64 0, .float .f64 0, .string ⟨#[]⟩, .slice none 0 0] 32)).drew = .ok () X1 ∧
    (storeVar 32 ⟨j, 0, none⟩ (eval E A c)).run Tryd.prog X1 = .ok () X2 ∧ Only (fun _ => False) w1 X1 ∧ Only (fun _ => False) w1 X2 ∧
    X2.heap[i]? = some (.cells (erow E A c) 32 (0, 0)) ∧ X2.heap[j]? = some (.cells (erow E A c) 32 (0, 0)) := by
  obtain ⟨Z, hZ⟩ : ∃ Z : Array Value, #[.string ⟨#[]⟩, .int .i64 0, .int .i64 0, .int .i64 0, .int .i64 0, .float .f64 0, .string ⟨#[]⟩, .slice none 0 0] = Z := ⟨_, rfl⟩
  rw [hZ]
  have hz : Z.size = 8 := by rw [← hZ]; rfl
  obtain ⟨V, hV⟩ : ∃ V, ((w1.alloc (.cells Z 32)).alloc (.cells Z 32)).drew = V := ⟨_, rfl⟩
  have ho : Only (fun _ => False) w1 V := by rw [← hV]; exact (((Only.refl _ w1).alloc _).alloc _).drew
  have h2 : V.heap[w1.heap.size + 1]? = some (.cells Z 32 (0, 0)) := by rw [← hV]; have := alloc_new (w1.alloc (.cells Z 32)) (.cells Z 32); rw [alloc_size] at this; exact this
  have h1 : V.heap[w1.heap.size]? = some (.cells Z 32 (0, 0)) := by rw [← hV]; exact (alloc_old (w1.alloc (.cells Z 32)) _ (by rw [alloc_size]; omega)).trans (alloc_new w1 _)
  have hi : V.heap[i]? = some (.cells Z 32 (0, 0)) := by rcases hij with ⟨e, _⟩ | ⟨e, _⟩ <;> (rw [e]; assumption)
  have hj : V.heap[j]? = some (.cells Z 32 (0, 0)) := by rcases hij with ⟨_, e⟩ | ⟨_, e⟩ <;> (rw [e]; assumption)
  have hne : i ≠ j := by omega
  have hi1 : w1.heap.size ≤ i := by omega
  have hj1 : w1.heap.size ≤ j := by omega
  rw [hV]
  have hsz : ((erow E A c).size) = 8 := rfl
  have e1 := run_storeVar_row (P := Tryd.prog) V i 32 32 Z (erow E A c) hi infoE (by rw [hz, hsz]) (erow_one E A c)
  have q1 := setRow_heap V i Z (erow E A c) 32 _ hi
  have q2 : (V.setRow i (erow E A c)).heap[j]? = some (.cells Z 32 (0, 0)) := (setRow_other V i _ (erow E A c) hne.symm).trans hj
  have e2 := run_storeVar_row (P := Tryd.prog) (V.setRow i (erow E A c)) j 32 32 Z (erow E A c) q2 infoE (by rw [hz, hsz]) (erow_one E A c)
  have o1 : Only (fun k => k = i) V (V.setRow i (erow E A c)) := ⟨rfl, rfl, rfl, by simp, fun _ _ hn => setRow_other V _ _ (erow E A c) hn⟩
  have o2 : Only (fun k => k = j) (V.setRow i (erow E A c)) ((V.setRow i (erow E A c)).setRow j (erow E A c)) := ⟨rfl, rfl, rfl, by simp, fun _ _ hn => setRow_other _ _ _ (erow E A c) hn⟩
  have ho1 := ho.trans o1 (fun k hk => Or.inr (by rw [hk]; exact hi1))
  exact ⟨_, _, e1, e2, ho1, ho1.trans o2 (fun k hk => Or.inr (by rw [hk]; exact hj1)), o2.keeps q1 hne, setRow_heap _ _ Z (erow E A c) 32 _ q2⟩
theorem ord_eq_comm (a b : Nat) : (FloatKind.f64.format.order a b == some .eq) = (FloatKind.f64.format.order b a == some .eq) := by
  change (Ieee.double.order a b == some .eq) = (Ieee.double.order b a == some .eq)
  by_cases ha : rg a ≤ INF
  · by_cases hb : rg b ≤ INF
    · rw [order_eq ha hb, order_eq hb ha]
      by_cases h : sv a = sv b
      · rw [h]
      · have h1 : compare (sv a) (sv b) ≠ .eq := fun e => h (Std.LawfulEqCmp.eq_of_compare e)
        have h2 : compare (sv b) (sv a) ≠ .eq := fun e => h (Std.LawfulEqCmp.eq_of_compare e).symm
        have : ∀ x : Ordering, x ≠ .eq → (some x == some .eq) = false := fun x hx => by cases x <;> first | rfl | exact absurd rfl hx
        rw [this _ h1, this _ h2]
    · rw [order_nan_r (by omega), order_nan_l (by omega)]
  · rw [order_nan_l (by omega), order_nan_r (by omega)]
theorem tSame_comm (a b : Nat) : tSame a b = tSame b a := by
  unfold tSame
  rw [ord_eq_comm a b, Bool.and_comm]
theorem set_same {w : World} {g k : Nat} {cs : Array Value} (h : w.heap[g]? = some (.cells cs 32 (0, 0))) (val : Value) : (w.setCell ⟨g, k, none⟩ val).heap[g]? = some (.cells (cs.setIfInBounds k val) 32 (0, 0)) := Joins.block_setCell h val
theorem set_other {w : World} {g g' k : Nat} {cs : Array Value} (h : w.heap[g]? = some (.cells cs 32 (0, 0))) (hne : g ≠ g') (val : Value) : (w.setCell ⟨g', k, none⟩ val).heap[g]? = some (.cells cs 32 (0, 0)) :=
  (Only.setCell (S := fun k => k = g') (Only.refl _ w) (p := ⟨g', k, none⟩) (Or.inl rfl) val).keeps h hne
def withT (E : Ent) (x : Nat) : Ent := { E with time := x }
def withM1 (E : Ent) (m : Int) : Ent := { E with mode := m }
def withD (E : Ent) (d : Str) : Ent := { E with data := d }
theorem same_times (E : Ent) (a b : Nat) : sameL (withT E a) (withT E b) = tSame a b := by simp [sameL, withT]
theorem may_times (E : Ent) (a b : Nat) : mayL (withT E a) = mayL (withT E b) := rfl
theorem same_mode (E : Ent) {m : Int} (h : E.mode ≠ m) : sameL E (withM1 E m) = false := by simp [sameL, withM1, h]
theorem same_data (E : Ent) (d : Str) (h : E.data ≠ d) : sameL E (withD E d) = false := by simp [sameL, withD, h]
theorem own_rdc {base : Nat} {w : World} {v : Value} {l : List Int} (h : Own base w v l) : ∃ A c, v = .slice A l.length c ∧ l.length ≤ c ∧ RdK .u8 w A l := by
  obtain ⟨A, c, e, hc, h2⟩ := Kd.R_reads h
  have := Kd.reads_of_C (d := (0 : Int)) h2
  exact ⟨A, c, e, hc, this.2.2⟩
theorem rd_zero (w : World) : RdK .u8 (w.alloc (.cells #[.int .u8 0] 5)) (some ⟨w.heap.size, 0, none⟩) [0] := fun _ => ⟨_, rfl, fun j hj => by
  obtain rfl : j = 0 := by simpa using hj
  exact Joins.cell_of_block (alloc_new w _) 0⟩
theorem ints_snoc (d : Str) : ints (d ++ [0]) = [] ++ ints d ++ [0] := by simp [ints]
theorem rdk_only {w w' : World} {S : Nat → Prop} {A : Option Addr} {l : List Int} (h : RdK .u8 w A l) (ho : Only S w w') (hS : ∀ ad, A = some ad → ¬ S ad.block) : RdK .u8 w' A l := fun h0 => by
  obtain ⟨ad, e, hc⟩ := h h0
  exact ⟨ad, e, fun j hj => ho.cell (hc j hj) (by rw [add_block]; exact hS ad e)⟩
theorem form_at {base : Nat} {w : World} {A : Option Addr} {n c : Nat} {l : List Int} (h : Own base w (.slice A n c) l) (h0 : 0 < l.length) : ∀ ad, A = some ad → base ≤ ad.block := fun ad e => by
  obtain ⟨g, cap, e9, hg⟩ := h.form h0
  injection e9 with e1 _ _
  rw [e] at e1
  rw [Option.some.inj e1]; exact hg
theorem svF (a : Addr) (x : Nat) (w : World) : (storeVar 29 a (.float .f64 x)).run Tryd.prog w = (store a (.float .f64 x)).run Tryd.prog w := by
  go_simp
theorem sv3 (a : Addr) (x : Int) (w : World) : (storeVar 3 a (.int .i64 x)).run Tryd.prog w = (store a (.int .i64 x)).run Tryd.prog w := by
  go_simp
theorem svB (a : Addr) (A : Option Addr) (n c : Nat) (w : World) : (storeVar 30 a (.slice A n c)).run Tryd.prog w = (store a (.slice A n c)).run Tryd.prog w := by
  go_simp
attribute [-go_sem] loadVar storeVar
attribute [local go_sem] lv9 lv3 lvF lvB svF sv3 svB run_store_float
set_option maxRecDepth 100000 in
set_option maxHeartbeats 4000000 in
theorem edges_law {w : World} (E : Ent) (A : Option Addr) (c : Nat) (fa fb : Nat) (hA : EntAt w E A c) (hI : EIn E) (hm : MaxLen w) :
    Calls Tryd.prog 4 #[eval E A c, .float .f64 fa, .float .f64 fb] w (BoolPost true w) := by
  have hO1 := (Only.refl (fun _ => False) w).alloc (.cells (erow E A c) 32)
  have hB1 := alloc_new w (.cells (erow E A c) 32)
  obtain ⟨g1, hg1⟩ : ∃ g1, w.heap.size = g1 := ⟨_, rfl⟩
  obtain ⟨W, hW⟩ : ∃ W, w.alloc (.cells (erow E A c) 32) = W := ⟨_, rfl⟩
  have HGW := Lib.hid (And.intro hg1 hW)
  rw [hg1, hW] at hB1
  rw [hW] at hO1
  have HO := Lib.hid hO1
  have HB := Lib.hid hB1
  have HM := Lib.hid (hm.only hO1)
  have HA := Lib.hid (hA.only hO1)
  have HI := Lib.hid hI
  have HOk := Lib.hid (fun h : greatL [E] = false => (small_ok h (fun F hF => by rw [List.mem_singleton.1 hF]; exact hI) E (List.mem_singleton.2 rfl)).1)
  obtain ⟨gr, hgr⟩ : ∃ gr, greatL [E] = gr := ⟨_, rfl⟩
  rw [hgr] at HOk
  have HGr := Lib.hid hgr
  clear hg1 hW hO1 hB1 hm hA hI hgr
  go_enter Tryd.func4, Tryd.ntmps4
  go_upto_region 1 with (fail)
  change Code.wp Tryd.prog _ _ _ (w.alloc (.cells (erow E A c) 32))
  rw [HGW.out.2, HGW.out.1]
  cases gr with
  | true =>
    go_wp2_with (first
      | ((with_reducible refine gate 11 rfl ?_); refine load_ent rfl _ rfl rfl HB.out ?_)
      | ((with_reducible refine gate 12 rfl ?_); refine build1 rfl _ rfl (E, A, c) rfl (fun d hd => by rw [List.mem_singleton.1 hd]; exact HA.out) ?_; intro b1 w1 hr1 ho1; have HR1 := Lib.hid hr1; have HO1 := Lib.hid ho1; clear hr1 ho1)
      | (go_at_call 8; have q := great_any (l := [E]) (n := 1) (c := 1) rfl (by decide) HR1.out (fun F hF => by rw [List.mem_singleton.1 hF]; exact HI.out); rw [HGr.out] at q; (with_reducible refine q.mono ?_); clear q; rintro x w2 ⟨rfl, hw⟩; obtain rfl := hw.symm)
      | (go_at_call 9; refine (told20_any _ (HM.out.only HO1.out)).mono ?_; rintro x w3 ⟨rfl, ho⟩; have HO2 := Lib.hid (HO1.out.trans' ho); clear ho))
    go_ret
    exact ⟨rfl, HO.out.trans' HO2.out⟩
  | false =>
    have HEo := Lib.hid (HOk.out rfl)
    go_upto_region 3 with (first
      | ((with_reducible refine gate 11 rfl ?_); refine load_ent rfl _ rfl rfl HB.out ?_)
      | ((with_reducible refine gate 12 rfl ?_); refine build1 rfl _ rfl (E, A, c) rfl (fun d hd => by rw [List.mem_singleton.1 hd]; exact HA.out) ?_; intro b1 w1 hr1 ho1; have HR1 := Lib.hid hr1; have HO1 := Lib.hid ho1; clear hr1 ho1)
      | (go_at_call 8; have q := great_any (l := [E]) (n := 1) (c := 1) rfl (by decide) HR1.out (fun F hF => by rw [List.mem_singleton.1 hF]; exact HI.out); rw [HGr.out] at q; (with_reducible refine q.mono ?_); clear q; rintro x w2 ⟨rfl, hw⟩; obtain rfl := hw.symm))
    have HB' := Lib.hid (HO1.out.keeps HB.out id)
    have hl : ∀ u, Only (fun _ => False) w1 u → (loadVar 32 ⟨g1, 0, none⟩).run Tryd.prog u = .ok (eval E A c) u := fun u h => loadE (h.keeps HB'.out id)
    obtain ⟨X1, X2, hs1, hs2, ho1, ho2, hx, hy⟩ := two_store w1 E A c _ _ (Or.inl ⟨rfl, rfl⟩)
    obtain ⟨Y1, Y2, hs3, hs4, ho3, ho4, hx3, hy3⟩ := two_store w1 E A c _ _ (Or.inr ⟨rfl, rfl⟩)
    clear HR1 HOk
    go_cut [7, 8] from 15 to 16 (fun v7 v8 u => ∃ gx gy, v7 = .pointer (some ⟨gx, 0, none⟩) ∧ v8 = .pointer (some ⟨gy, 0, none⟩) ∧ Hid (gx ≠ gy ∧ w1.heap.size ≤ gx ∧ w1.heap.size ≤ gy) ∧ Hid (Only (fun _ => False) w1 u) ∧ Hid (u.heap[gx]? = some (.cells (erow E A c) 32 (0, 0))) ∧ Hid (u.heap[gy]? = some (.cells (erow E A c) 32 (0, 0))))
    case first =>
      go_region_held3 (fun u => Only (fun _ => False) w1 u) (((repeat (first | refine Only.drew ?_ | refine Only.alloc ?_ _)); first | assumption | exact Only.refl _ _)) (fail)
      · go_wp2_with fail
        go_meet
        case rel => exact ⟨_, _, rfl, rfl, Lib.hid ⟨by omega, by omega, by omega⟩, Lib.hid ho2, Lib.hid hx, Lib.hid hy⟩
      · go_wp2_with fail
        go_meet
        case rel => exact ⟨_, _, rfl, rfl, Lib.hid ⟨by omega, by omega, by omega⟩, Lib.hid ho4, Lib.hid hx3, Lib.hid hy3⟩
    case rest =>
      obtain ⟨gx, gy, rfl, rfl, HNe, HO2, HX, HY⟩ := hcut
      clear hs1 hs2 hs3 hs4 ho1 ho2 ho3 ho4 hx hy hx3 hy3 hl
      clear X1 X2 Y1 Y2
      have x5 : wc.cell? ⟨gx, 5, none⟩ = some (.float .f64 E.time) := Joins.cell_of_block HX.out 5
      have y5 : wc.cell? ⟨gy, 5, none⟩ = some (.float .f64 E.time) := Joins.cell_of_block HY.out 5
      have fx5 : wc.frozen? ⟨gx, 5, none⟩ = false := by simp [World.frozen?, HX.out]
      have fy5 : wc.frozen? ⟨gy, 5, none⟩ = false := by simp [World.frozen?, HY.out]
      have hxy : gx ≠ gy := HNe.out.1
      have hyx : gy ≠ gx := hxy.symm
      have y5' : (wc.setCell ⟨gx, 5, none⟩ (.float .f64 fa)).cell? ⟨gy, 5, none⟩ = some (.float .f64 E.time) := by
        have := (Only.setCell (S := fun k => k = gx) (Only.refl _ wc) (p := ⟨gx, 5, none⟩) (Or.inl rfl) (.float .f64 fa)).cell y5 (fun h => hyx h)
        exact this
      have fy5' : (wc.setCell ⟨gx, 5, none⟩ (.float .f64 fa)).frozen? ⟨gy, 5, none⟩ = false := by
        have := (Only.setCell (S := fun k => k = gx) (Only.refl _ wc) (p := ⟨gx, 5, none⟩) (Or.inl rfl) (.float .f64 fa)).keeps HY.out (fun h => hyx h)
        simp [World.frozen?, this]
      go_upto_region 5 with (fail)
      obtain ⟨V, hV⟩ : ∃ V, (wc.setCell ⟨gx, 5, none⟩ (.float .f64 fa)).setCell ⟨gy, 5, none⟩ (.float .f64 fb) = V := ⟨_, rfl⟩
      have HVX := Lib.hid (show V.heap[gx]? = some (.cells (erow (withT E fa) A c) 32 (0, 0)) by rw [← hV]; exact set_other (set_same HX.out _) hxy _)
      have HVY := Lib.hid (show V.heap[gy]? = some (.cells (erow (withT E fb) A c) 32 (0, 0)) by rw [← hV]; exact set_same (set_other HY.out hyx _) _)
      have HOV := Lib.hid (show Only (fun _ => False) W V by rw [← hV]; exact HO1.out.trans' (((HO2.out).setCell (p := ⟨gx, 5, none⟩) (Or.inr HNe.out.2.1) _).setCell (p := ⟨gy, 5, none⟩) (Or.inr HNe.out.2.2) _))
      have HGe := Lib.hid (show W.heap.size ≤ gx ∧ W.heap.size ≤ gy from ⟨Nat.le_trans HO1.out.size HNe.out.2.1, Nat.le_trans HO1.out.size HNe.out.2.2⟩)
      rw [hV]
      clear hV x5 y5 fx5 fy5 y5' fy5' HO2 HX HY HB' HO1 HNe
      clear wc w1
      have HDat : ∀ x : Nat, EntAt V (withT E x) A c := fun x => HA.out.only HOV.out
      obtain ⟨X, hX⟩ : ∃ X, withT E fa = X := ⟨_, rfl⟩
      obtain ⟨Y, hY⟩ : ∃ Y, withT E fb = Y := ⟨_, rfl⟩
      obtain ⟨s, hs⟩ : ∃ s, tSame fa fb = s := ⟨_, rfl⟩
      have HDX : EntAt V X A c := by rw [← hX]; exact HDat fa
      have HDY : EntAt V Y A c := by rw [← hY]; exact HDat fb
      have HXo : EOk X := by rw [← hX]; exact ⟨HEo.out.path, HEo.out.target, HEo.out.data⟩
      have HYo : EOk Y := by rw [← hY]; exact ⟨HEo.out.path, HEo.out.target, HEo.out.data⟩
      have hxy1 : sameL X Y = s := by rw [← hX, ← hY, same_times, hs]
      have hyx1 : sameL Y X = s := by rw [← hX, ← hY, same_times, tSame_comm, hs]
      obtain ⟨my, hmy⟩ : ∃ my, mayL X = my := ⟨_, rfl⟩
      have hmy2 : mayL Y = my := by rw [← hmy, ← hX, ← hY]; exact may_times E fb fa
      have hIX : EIn X := by rw [← hX]; exact ⟨HI.out.kind, HI.out.mode, HI.out.uid, HI.out.gid, HI.out.path, HI.out.target, HI.out.data⟩
      have HIX := Lib.hid hIX
      have HSm := Lib.hid (small_ok HGr.out (fun F hF => by rw [List.mem_singleton.1 hF]; exact HI.out))
      have HXl := Lib.hid (show X.data.length ≤ 1000 by rw [← hX]; exact ((EOk.of_small HGr.out).2 E (List.mem_singleton.2 rfl)).2.2)
      rw [hX] at HVX
      rw [hY] at HVY
      have HS := Lib.hid (show s = ((FloatKind.f64.format.order fa fb == some .eq) || (isN fa && isN fb)) from hs.symm)
      have HSxy := Lib.hid (fun x : Later V => show Calls Tryd.prog 14 #[eval X A c, eval Y A c] x.w (fun e w' => e = .returned (.bool s) ∧ Only (fun _ => False) x.w w') by have := same_any (HDX.only x.h) (HDY.only x.h); rw [hxy1] at this; exact this)
      have HSyx := Lib.hid (fun x : Later V => show Calls Tryd.prog 14 #[eval Y A c, eval X A c] x.w (fun e w' => e = .returned (.bool s) ∧ Only (fun _ => False) x.w w') by have := same_any (HDY.only x.h) (HDX.only x.h); rw [hyx1] at this; exact this)
      have HMX := Lib.hid (fun x : Later V => show Calls Tryd.prog 15 #[eval X A c] x.w (fun e w' => e = .returned (.bool my) ∧ Only (fun _ => False) x.w w') by have := may_any X A c x.w HXo (HM.out.only (HOV.out.trans' x.h)); rw [hmy] at this; exact this)
      have HMY := Lib.hid (fun x : Later V => show Calls Tryd.prog 15 #[eval Y A c] x.w (fun e w' => e = .returned (.bool my) ∧ Only (fun _ => False) x.w w') by have := may_any Y A c x.w HYo (HM.out.only (HOV.out.trans' x.h)); rw [hmy2] at this; exact this)
      have hl1 : ∀ x : Later V, (loadVar 32 ⟨gx, 0, none⟩).run Tryd.prog x.w = .ok (eval X A c) x.w := fun x => loadE (x.h.keeps HVX.out id)
      have hl2 : ∀ x : Later V, (loadVar 32 ⟨gy, 0, none⟩).run Tryd.prog x.w = .ok (eval Y A c) x.w := fun x => loadE (x.h.keeps HVY.out id)
      have n1 : (s != s) = false := by cases s <;> rfl
      have n2 : (my != my) = false := by cases my <;> rfl
      have HDW := Lib.hid (fun u (h : Only (fun _ => False) W u) => show EntAt u X A c by rw [← hX]; exact HA.out.only h)
      clear HDX HDY HXo HYo hxy1 hyx1 hmy hmy2 hIX hs HDat hX hY
      go_cut [9] from 21 to 33 (fun v9 u => v9 = .bool s ∧ V = u)
      case first =>
        obtain ⟨b1, h1⟩ : ∃ b1 : Bool, (FloatKind.f64.format.order fa fb == some .eq) = b1 := ⟨_, rfl⟩
        obtain ⟨b2, h2⟩ : ∃ b2 : Bool, isN fa = b2 := ⟨_, rfl⟩
        obtain ⟨b3, h3⟩ : ∃ b3 : Bool, isN fb = b3 := ⟨_, rfl⟩
        rw [h1, h2, h3] at HS
        have g2 : (FloatKind.f64.format.order fa fa != some .eq) = b2 := h2
        have g3 : (FloatKind.f64.format.order fb fb != some .eq) = b3 := h3
        clear h2 h3 hl1 hl2 HSxy HSyx HMX HMY
        rcases wayT b1 (way b2 (ways b3)) with rfl | ⟨rfl, rfl | ⟨rfl, rfl | rfl⟩⟩
        all_goals
          go_wp2_with fail
          go_meet
          case rel => exact ⟨by rw [HS.out]; rfl, by trivial⟩
      case rest =>
        obtain ⟨rfl, rfl⟩ := hcut
        clear HS
        go_upto_region 6 with (fail)
        refine wp_region_later (by kernel_rfl) (by kernel_rfl) ?_
        repeat (go_big_quiet_step ((first
          | (go_at_call 15; (with_reducible exact Calls.later (HMX.out _)))
          | (go_at_call 15; (with_reducible exact Calls.later (HMY.out _)))
          | (go_at_call 14; (with_reducible exact Calls.later (HSxy.out _)))
          | (go_at_call 14; (with_reducible exact Calls.later (HSyx.out _))))))
        refine wpQuiet_nil ?_
        rintro u ⟨x, hx⟩
        have hu := x.h
        rw [← hx] at hu
        clear hx
        have HUX := Lib.hid (hu.keeps HVX.out id)
        have HUY := Lib.hid (hu.keeps HVY.out id)
        have HOU := Lib.hid (HOV.out.trans' hu)
        clear hl1 hl2 HSxy HSyx HMX HMY n1 n2 HVX HVY HOV hu
        clear x V
        go_upto_region 9 with (first
          | ((with_reducible refine gate 53 rfl ?_); refine load_ent rfl _ rfl rfl HUX.out ?_)
          | ((with_reducible refine gate_store 32 rfl ?_); refine store_ent rfl rfl X A c _ _ rfl rfl rfl HUY.out ?_; intro w3 hb3 ho3; have HY3 := Lib.hid hb3; have HX3 := Lib.hid (ho3.keeps HUX.out hxy); have HO3 := Lib.hid (HOU.out.trans ho3 (fun k hk => Or.inr (by rw [hk]; exact HGe.out.2))); clear hb3 ho3))
        clear HUX HUY HOU
        clear u
        have y2 : w3.cell? ⟨gy, 2, none⟩ = some (.int .i64 X.mode) := Joins.cell_of_block HY3.out 2
        have fy2 : w3.frozen? ⟨gy, 2, none⟩ = false := by simp [World.frozen?, HY3.out]
        go_upto_region 10 with (fail)
        have HMn := Lib.hid (show X.mode ≠ wrap64 (X.mode + 1) by unfold wrap64; omega)
        obtain ⟨m1, hm1⟩ : ∃ m1, wrap64 (X.mode + 1) = m1 := ⟨_, rfl⟩
        rw [hm1] at HMn ⊢
        obtain ⟨V, hV⟩ : ∃ V, w3.setCell ⟨gy, 2, none⟩ (.int .i64 m1) = V := ⟨_, rfl⟩
        have HVX := Lib.hid (show V.heap[gx]? = some (.cells (erow X A c) 32 (0, 0)) by rw [← hV]; exact set_other HX3.out hxy _)
        have HVY := Lib.hid (show V.heap[gy]? = some (.cells (erow (withM1 X m1) A c) 32 (0, 0)) by rw [← hV]; exact set_same HY3.out _)
        have HOV := Lib.hid (show Only (fun _ => False) W V by rw [← hV]; exact HO3.out.setCell (p := ⟨gy, 2, none⟩) (Or.inr HGe.out.2) _)
        rw [hV]
        clear hV hm1 y2 fy2 HX3 HY3 HO3
        clear w3
        go_upto_region 11 with (first
          | ((with_reducible refine gate 58 rfl ?_); refine load_ent rfl _ rfl rfl HVX.out ?_)
          | ((with_reducible refine gate_store 32 rfl ?_); refine store_newE rfl rfl X A c _ _ rfl rfl rfl ?_; intro w5 hb5 ho5; have HZ5 := Lib.hid hb5; have HX5 := Lib.hid (ho5.keeps HVX.out id); have HY5 := Lib.hid (ho5.keeps HVY.out id); have HO5 := Lib.hid (HOV.out.trans' ho5); clear hb5 ho5))
        have HGz := Lib.hid (show gx ≠ V.heap.size ∧ gy ≠ V.heap.size ∧ W.heap.size ≤ V.heap.size from ⟨fun e => by have := Only.heap_lt HVX.out; omega, fun e => by have := Only.heap_lt HVY.out; omega, HOV.out.size⟩)
        obtain ⟨gz, hgz⟩ : ∃ gz, V.heap.size = gz := ⟨_, rfl⟩
        rw [hgz] at HZ5 HGz ⊢
        clear hgz HVX HVY HOV
        clear V
        have HRd := Lib.hid ((HDW.out w5 HO5.out).1)
        unfold RdU at HRd
        have x7 : w5.cell? ⟨gx, 7, none⟩ = some (.slice A (ints X.data).length c) := by rw [ints_len]; exact Joins.cell_of_block HX5.out 7
        obtain ⟨D, hD⟩ : ∃ D, ints X.data = D := ⟨_, rfl⟩
        have HDl := Lib.hid (show D.length ≤ 1000 by rw [← hD, ints_len]; exact HXl.out)
        have HD := Lib.hid hD
        rw [hD] at x7 HRd
        clear hD
        go_upto_region 12 with (first
          | (with_reducible refine gate 59 rfl ?_
             refine own_empty (base := w5.heap.size) (w0 := w5) rfl rfl ?hr (Below.refl _ _) (Nat.le_refl _) ?_
             (case hr => first | (go_simp; done) | (go_simp; rfl))
             intro v6 w6 hO6 hB6 hs6
             have x76 := (hB6.cell (Only.heap_lt HX5.out)).trans x7)
          | (with_reducible refine gate 62 rfl ?_
             refine own_append (base := w5.heap.size) (w0 := w5) rfl (.tmp 59) (.tmp 61) rfl v6 [] D A c rfl rfl hO6 (HRd.out.below hB6) hB6 hB6.size (by have := HDl.out; simp; omega) ?_
             intro v7 w7 hO7 hB7 hs7)
          | (with_reducible refine gate 64 rfl ?_
             refine own_append (base := w5.heap.size) (w0 := w5) rfl (.tmp 62) (.tmp 63) rfl v7 ([] ++ D) [0] (some ⟨w7.heap.size, 0, none⟩) 1 rfl rfl (Own.only hO7 ((Only.refl _ w7).alloc _)) (rd_zero w7) (hB7.alloc hB7.size _) (by have := hB7.size; rw [alloc_size]; omega) (by have := HDl.out; simp; omega) ?_
             intro v9 w9 hO9 hB9 hs9
             obtain ⟨A9, c9, rfl, hc9, hr9⟩ := own_rdc hO9
             have HO9 := Lib.hid (HO5.out.trans' (Only.of_below hB9 (fun _ => False)))
             have HZ9 := Lib.hid ((Only.of_below hB9 (fun _ => False)).keeps HZ5.out id)
             have HX9 := Lib.hid ((Only.of_below hB9 (fun _ => False)).keeps HX5.out id)
             have HY9 := Lib.hid ((Only.of_below hB9 (fun _ => False)).keeps HY5.out id)
             have HC9 := Lib.hid hc9
             have HG9 := Lib.hid (form_at hO9 (by simp))
             have HZlt := Lib.hid (Only.heap_lt HZ5.out)
             have HR9 := Lib.hid hr9
             have z7 : w9.cell? ⟨gz, 7, none⟩ = some (.slice A X.data.length c) := Joins.cell_of_block HZ9.out 7
             have fz7 : w9.frozen? ⟨gz, 7, none⟩ = false := by simp [World.frozen?, HZ9.out]
             clear hc9 hr9))
        have HZr := Lib.hid (show (erow X A c).setIfInBounds 7 (.slice A9 (D.length + 1) c9) = erow (withD X (X.data ++ [0])) A9 c9 by
          have e : D.length + 1 = (X.data ++ [0]).length := by rw [← HD.out, ints_len, List.length_append]; rfl
          rw [e]; rfl)
        have HZd := Lib.hid (show RdU w9 A9 (X.data ++ [0]) by unfold RdU; rw [ints_snoc, HD.out]; exact HR9.out)
        have HZc := Lib.hid (show (X.data ++ [0]).length ≤ c9 by
          have h1 := HC9.out
          have h2 : D.length = X.data.length := by rw [← HD.out, ints_len]
          simp only [List.nil_append, List.length_append, List.length_singleton] at h1 ⊢
          omega)
        obtain ⟨V, hV⟩ : ∃ V, w9.setCell ⟨gz, 7, none⟩ (.slice A9 (D.length + 1) c9) = V := ⟨_, rfl⟩
        have HVX := Lib.hid (fun u (h : Only (fun _ => False) V u) => h.keeps (show V.heap[gx]? = some (.cells (erow X A c) 32 (0, 0)) by rw [← hV]; exact set_other HX9.out HGz.out.1 _) id)
        have HVY := Lib.hid (fun u (h : Only (fun _ => False) V u) => h.keeps (show V.heap[gy]? = some (.cells (erow (withM1 X m1) A c) 32 (0, 0)) by rw [← hV]; exact set_other HY9.out HGz.out.2.1 _) id)
        have HVZ := Lib.hid (fun u (h : Only (fun _ => False) V u) => h.keeps (show V.heap[gz]? = some (.cells (erow (withD X (X.data ++ [0])) A9 c9) 32 (0, 0)) by rw [← hV, ← HZr.out]; exact set_same HZ9.out _) id)
        have HOV := Lib.hid (show Only (fun _ => False) W V by rw [← hV]; exact HO9.out.setCell (p := ⟨gz, 7, none⟩) (Or.inr HGz.out.2.2) _)
        have hod : Only (fun k => k = gz) w9 V := by rw [← hV]; exact Only.setCell (S := fun k => k = gz) (Only.refl _ w9) (p := ⟨gz, 7, none⟩) (Or.inl rfl) _
        have HDZ := Lib.hid (fun u (h : Only (fun _ => False) V u) => show EntAt u (withD X (X.data ++ [0])) A9 c9 from ⟨(show RdU V A9 (X.data ++ [0]) from rdk_only HZd.out hod (fun ad e h => by have := HG9.out ad e; have := HZlt.out; omega)).only h, HZc.out⟩)
        have HT := Lib.hid (told20_any V (HM.out.only HOV.out))
        have HSxx := Lib.hid (fun u (h : Only (fun _ => False) V u) => show Calls Tryd.prog 14 #[eval X A c, eval X A c] u (fun e w' => e = .returned (.bool true) ∧ Only (fun _ => False) u w') by have := same_any (HDW.out u (HOV.out.trans' h)) (HDW.out u (HOV.out.trans' h)); rw [sameL_refl] at this; exact this)
        have HSxy := Lib.hid (fun u (h : Only (fun _ => False) V u) => show Calls Tryd.prog 14 #[eval X A c, eval (withM1 X m1) A c] u (fun e w' => e = .returned (.bool false) ∧ Only (fun _ => False) u w') by have := same_any (HDW.out u (HOV.out.trans' h)) (show EntAt u (withM1 X m1) A c from HDW.out u (HOV.out.trans' h)); rw [same_mode X HMn.out] at this; exact this)
        have HSxz := Lib.hid (fun u (h : Only (fun _ => False) V u) => show Calls Tryd.prog 14 #[eval X A c, eval (withD X (X.data ++ [0])) A9 c9] u (fun e w' => e = .returned (.bool false) ∧ Only (fun _ => False) u w') by have := same_any (HDW.out u (HOV.out.trans' h)) (HDZ.out u h); rw [same_data X _ (fun e => by have := congrArg List.length e; simp at this)] at this; exact this)
        obtain ⟨Y1, hY1⟩ : ∃ Y1, withM1 X m1 = Y1 := ⟨_, rfl⟩
        obtain ⟨Z1, hZ1⟩ : ∃ Z1, withD X (X.data ++ [0]) = Z1 := ⟨_, rfl⟩
        rw [hY1] at HVY HSxy
        rw [hZ1] at HVZ HSxz
        rw [hV]
        clear hV hod hY1 hZ1 HDZ HZd HZc HZr HC9 HR9 HG9 HZlt HX9 HY9 HZ9 HO9 z7 fz7 HMn
        go_wp2_with (first
          | (go_at_call 9; refine HT.out.mono ?_; rintro x w10 ⟨rfl, ho⟩; have HO10 := Lib.hid ho; clear ho)
          | ((with_reducible refine gate 68 rfl ?_); (refine gate_guard (by rfl) ?_; dsimp only); refine load_ent rfl _ rfl rfl (HVX.out _ HO10.out) ?_)
          | ((with_reducible refine gate 69 rfl ?_); (refine gate_guard (by rfl) ?_; dsimp only); refine load_ent rfl _ rfl rfl (HVX.out _ HO10.out) ?_)
          | ((with_reducible refine gate 73 rfl ?_); (refine gate_guard (by rfl) ?_; dsimp only); refine load_ent rfl _ rfl rfl (HVX.out _ HO11.out) ?_)
          | ((with_reducible refine gate 74 rfl ?_); (refine gate_guard (by rfl) ?_; dsimp only); refine load_ent rfl _ rfl rfl (HVY.out _ HO11.out) ?_)
          | ((with_reducible refine gate 79 rfl ?_); (refine gate_guard (by rfl) ?_; dsimp only); refine load_ent rfl _ rfl rfl (HVX.out _ HO12.out) ?_)
          | ((with_reducible refine gate 80 rfl ?_); (refine gate_guard (by rfl) ?_; dsimp only); refine load_ent rfl _ rfl rfl (HVZ.out _ HO12.out) ?_)
          | (go_at_call 14; (first
              | ((with_reducible refine (HSxx.out _ HO10.out).mono ?_); rintro x w11 ⟨rfl, ho⟩; have HO11 := Lib.hid (HO10.out.trans' ho); clear ho)
              | ((with_reducible refine (HSxy.out _ HO11.out).mono ?_); rintro x w12 ⟨rfl, ho⟩; have HO12 := Lib.hid (HO11.out.trans' ho); clear ho)
              | ((with_reducible refine (HSxz.out _ HO12.out).mono ?_); rintro x w13 ⟨rfl, ho⟩; have HO13 := Lib.hid (HO12.out.trans' ho); clear ho)))
          | (fail))
        go_ret
        exact ⟨rfl, HO.out.trans' (HOV.out.trans' HO13.out)⟩
set_option maxRecDepth 100000 in
set_option maxHeartbeats 4000000 in
theorem lawEdges {H : Type} {enc : TypeId × Value → H} {W : World} {base : Nat} {v0 v1 v2 : Value} {d0 d1 d2 : DataW H} {p0 p1 p2 : List MemPlace} {ts : List TypeId} {ds : List (DataW H)} (hm : MaxLen W)
    (ov0 : Value.okWide Tryd.prog W .any base 32 v0) (k0 : DataW.Trod enc Tryd.prog W 0 (fun _ => true) true 32 v0 d0 p0)
    (ov1 : Value.okWide Tryd.prog W .any base 29 v1) (k1 : DataW.Trod enc Tryd.prog W 0 (fun _ => true) true 29 v1 d1 p1)
    (ov2 : Value.okWide Tryd.prog W .any base 29 v2) (k2 : DataW.Trod enc Tryd.prog W 0 (fun _ => true) true 29 v2 d2 p2)
    (_ : (DataW.weightsEach Tryd.prog ts ds).all (· ≤ reachBytes) = true) :
    Calls Tryd.prog 4 #[v0, v1, v2] W fun e w' => e = .returned (.bool true) ∧ Below W.heap.size W w' := by
  obtain ⟨E, A, c, rfl, hA, hI⟩ := open_ent ov0 k0
  obtain ⟨fa, rfl, _, _, _⟩ := Go.ChangeShapes.open_float Tryd.underlying29 ov1 k1
  obtain ⟨fb, rfl, _, _, _⟩ := Go.ChangeShapes.open_float Tryd.underlying29 ov2 k2
  exact (edges_law E A c fa fb hA hI hm).mono fun x w' h => ⟨h.1, h.2.none⟩
end Go.Proofs.YtihcdecdkpbpmaaDoor.Walks
