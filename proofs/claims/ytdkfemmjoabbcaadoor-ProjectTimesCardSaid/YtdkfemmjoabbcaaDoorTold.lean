/- Contract of told. -/
import Derived.Test.YtdkfemmjoabbcaaDoorOne
import Derived.Test.YtdkfemmjoabbcaaDoorEntS
namespace Go.Proofs.YtdkfemmjoabbcaaDoor.Walks
open Go Go.RowKit Go.Proofs.YtdkfemmjoabbcaaDoor.Aid Go.Proofs.YtdkfemmjoabbcaaDoor.Pth Go.Proofs.YtdkfemmjoabbcaaDoor.Own Go.Proofs.YtdkfemmjoabbcaaDoorW.PrintWords

def e1 : Ent := ⟨[97, 47, 98], 1, 1, 7, 0, 4610560118520545280, [], []⟩
def e14 : Ent := ⟨[98], 1, 420, 0, 0, 4607182418800017408, [], []⟩
theorem one14 : oneL e1 4 0 = e14 := by kernel_rfl
theorem one12 : oneL e1 2 0 = e1 := by kernel_rfl
theorem eok1 : EOk e1 := ⟨by decide, by decide, by decide⟩
theorem rep1 : repL [e1] 1 = -1 := by kernel_rfl
theorem rep0 : repL [] 5 = 0 := by kernel_rfl
theorem fld5 (E : Ent) (A : Option Addr) (c : Nat) (u : World) : (Instr.field 25 (eval E A c) 5).run Tryd.prog u = .ok (.float .f64 E.time) u := by
  kernel_rfl
set_option maxRecDepth 100000 in
set_option maxHeartbeats 4000000 in
theorem told_any (w : World) (hm : MaxLen w) : Calls Tryd.prog 9 #[] w (BoolPost true w) := by
  have HM := Lib.hid hm
  obtain ⟨g1, hg1⟩ : ∃ g1, w.heap.size = g1 := ⟨_, rfl⟩
  have HG := Lib.hid hg1
  clear hm hg1
  go_enter Tryd.func9, Tryd.ntmps9
  go_upto_region 2 with (first
    | ((with_reducible refine gate_store 25 rfl ?_); refine store_newE rfl rfl e1 none 0 _ _ rfl rfl rfl ?_; intro w1 hb1 ho1; have HB1 := Lib.hid hb1; have HO1 := Lib.hid ho1; clear hb1 ho1))
  rw [HG.out] at HB1 ⊢
  clear HG
  have HAt := Lib.hid (show EntAt w1 e1 none 0 from ⟨RdU.nil _ _, Nat.le_refl _⟩)
  have HOn := Lib.hid (fun (u : World) (h : MaxLen u) => one_any e1 none 0 4 u eok1 h ⟨RdU.nil _ _, Nat.le_refl _⟩ (fun h => absurd h (by decide)) (fun _ => unix_175) 0 (fun h => absurd h (by decide)))
  have HTw := Lib.hid (fun (u : World) (h : MaxLen u) => one_any e1 none 0 2 u eok1 h ⟨RdU.nil _ _, Nat.le_refl _⟩ (fun _ => fine_175) (fun h => absurd h (by decide)) 0 (fun h => absurd h (by decide)))
  rw [one14] at HOn
  rw [one12] at HTw
  go_upto_region 3 with (first
    | ((with_reducible refine gate 4 rfl ?_); refine load_ent rfl _ rfl rfl HB1.out ?_)
    | (go_at_call 10; refine (HOn.out _ (HM.out.only HO1.out)).mono ?_; rintro x w2 ⟨A2, k2, rfl, hE2, ho2, hnw⟩
       clear hnw
       have HE2 := Lib.hid hE2
       have HO2 := Lib.hid (HO1.out.trans' ho2)
       have HB2 := Lib.hid (ho2.keeps HB1.out id)
       clear ho2 hE2)
    | ((with_reducible refine gate_store 25 rfl ?_); refine store_newE rfl rfl e14 A2 k2 _ _ rfl rfl rfl ?_; intro w3 hb3 ho3
       have HO3 := Lib.hid (HO2.out.trans' ho3)
       have HB4 := Lib.hid (ho3.keeps HB2.out id)
       have HB3 := Lib.hid hb3
       clear hb3 ho3))
  obtain ⟨g3, hg3⟩ : ∃ g3, w2.heap.size = g3 := ⟨_, rfl⟩
  rw [hg3] at HB3 ⊢
  have k0 : w3.cell? ⟨g3, 0, none⟩ = some (.string ⟨#[98]⟩) := Joins.cell_of_block HB3.out 0
  have k2' : w3.cell? ⟨g3, 2, none⟩ = some (.int .i64 420) := Joins.cell_of_block HB3.out 2
  have k3 : w3.cell? ⟨g3, 3, none⟩ = some (.int .i64 0) := Joins.cell_of_block HB3.out 3
  have k5 : w3.cell? ⟨g3, 5, none⟩ = some (.float .f64 4607182418800017408) := Joins.cell_of_block HB3.out 5
  have o1 : (FloatKind.f64.format.order 4607182418800017408 4607182418800017408 == some .eq) = true := by kernel_rfl
  have o2 : (FloatKind.f64.format.order 4610560118520545280 4610560118520545280 == some .eq) = true := by kernel_rfl
  clear HO1 HO2 HB1 HB2 HE2 hg3 HAt HOn
  clear w1 w2
  have hfl : ∀ A c u, (Instr.field 25 (eval e1 A c) 5).run Tryd.prog u = .ok (.float .f64 4610560118520545280) u := fun A c u => fld5 e1 A c u
  go_wp2_with (first
    | ((with_reducible refine gate 25 rfl ?_); (refine gate_guard (by rfl) ?_; dsimp only); refine load_ent rfl _ rfl rfl HB4.out ?_)
    | (go_at_call 10; refine (HTw.out _ (HM.out.only HO3.out)).mono ?_; rintro x w5 ⟨A5, k5', rfl, _, ho5, hnw⟩
       clear hnw
       have HO5 := Lib.hid (HO3.out.trans' ho5)
       have HB5 := Lib.hid (ho5.keeps HB4.out id)
       clear ho5)
    | ((with_reducible refine gate 31 rfl ?_); (refine gate_guard (by rfl) ?_; dsimp only); refine load_ent rfl _ rfl rfl HB5.out ?_)
    | (go_at_call 12
       first
         | (change Calls _ _ _ (w5.alloc (.cells (erow e1 none 0) 25)) _
            refine (rep_any (l := [e1]) (n := 1) (c := 1) 1 rfl (by decide) (rde_lit (w := w5) (C := erow e1 none 0) [(e1, none, 0)] rfl (fun e he => by
              rw [List.mem_singleton.1 he]; exact ⟨RdU.nil _ _, Nat.le_refl _⟩)) (fun E hE => by rw [List.mem_singleton.1 hE]; exact ⟨eok1, by decide, by decide⟩) (HM.out.only (HO5.out.trans' ((Only.refl (fun _ => False) w5).alloc (.cells (erow e1 none 0) 25))))).mono ?_
            rintro x w6 ⟨rfl, ho6⟩
            rw [rep1]
            have HO6 := Lib.hid (HO5.out.trans' (((Only.refl (fun _ => False) w5).alloc (.cells (erow e1 none 0) 25)).trans' ho6))
            clear ho6)
         | (refine (rep_any (l := []) (n := 0) (c := 0) (M := fun _ => (none, 0)) 5 rfl (by decide) (RdE.nil _ _ _) (fun E hE => absurd hE (by simp)) (HM.out.only HO6.out)).mono ?_
            rintro x w7 ⟨rfl, ho7⟩
            rw [rep0]
            have HO7 := Lib.hid (HO6.out.trans' ho7)
            clear ho7)))
  go_ret
  exact ⟨rfl, HO7.out⟩
end Go.Proofs.YtdkfemmjoabbcaaDoor.Walks
