/- Contracts of the program's Same of times and of entries. -/
import Derived.Test.YtihcdecdkpbpmaaDoorRSame
import Derived.Test.YtihcdecdkpbpmaaDoorShelfB
namespace Go.Proofs.YtihcdecdkpbpmaaDoor.Walks
open Go Go.RowKit Go.Proofs.YtihcdecdkpbpmaaDoor.Aid Go.Proofs.YtihcdecdkpbpmaaDoor.Pth Go.Proofs.YtihcdecdkpbpmaaDoor.Own Go.Proofs.YtihcdecdkpbpmaaDoorW.PrintWords

set_option maxRecDepth 100000 in
set_option maxHeartbeats 4000000 in
theorem tsame_any (a b : Nat) (w : World) : Calls Tryd.prog 31 #[.float .f64 a, .float .f64 b] w (fun x w' => x = .returned (.bool (tSame a b)) ∧ w' = w) := by
  have HT := Lib.hid (show tSame a b = ((FloatKind.f64.format.order a b == some .eq) || (isN a && isN b)) from rfl)
  obtain ⟨b1, h1⟩ : ∃ b1 : Bool, (FloatKind.f64.format.order a b == some .eq) = b1 := ⟨_, rfl⟩
  obtain ⟨b2, h2⟩ : ∃ b2 : Bool, isN a = b2 := ⟨_, rfl⟩
  obtain ⟨b3, h3⟩ : ∃ b3 : Bool, isN b = b3 := ⟨_, rfl⟩
  rw [h1, h2, h3] at HT
  have g2 : (FloatKind.f64.format.order a a != some .eq) = b2 := h2
  have g3 : (FloatKind.f64.format.order b b != some .eq) = b3 := h3
  clear h2 h3
  rcases wayT b1 (way b2 (ways b3)) with rfl | ⟨rfl, rfl | ⟨rfl, rfl | rfl⟩⟩
  all_goals
    go_enter Tryd.func31, Tryd.ntmps31
    go_wp2_with fail
    go_ret
    exact ⟨by rw [HT.out]; rfl, rfl⟩
set_option maxRecDepth 100000 in
set_option maxHeartbeats 4000000 in
theorem same_any {E F : Ent} {A A' : Option Addr} {c c' : Nat} {w : World} (hE : EntAt w E A c) (hF : EntAt w F A' c') :
    Calls Tryd.prog 14 #[eval E A c, eval F A' c'] w (BoolPost (sameL E F) w) := by
  have hO1 := (Only.refl (fun _ => False) w).alloc (.cells (erow E A c) 32)
  have hB1 := alloc_new w (.cells (erow E A c) 32)
  have hO2 := (Only.refl (fun _ => False) (w.alloc (.cells (erow E A c) 32))).alloc (.cells (erow F A' c') 32)
  have hB2 := alloc_new (w.alloc (.cells (erow E A c) 32)) (.cells (erow F A' c') 32)
  have hs : (w.alloc (.cells (erow E A c) 32)).heap.size = w.heap.size + 1 := alloc_size w _
  rw [hs] at hB2
  replace hB1 := hO2.keeps hB1 id
  have hO := hO1.trans' hO2
  obtain ⟨g1, hg1⟩ : ∃ g1, w.heap.size = g1 := ⟨_, rfl⟩
  obtain ⟨g2, hg2⟩ : ∃ g2, w.heap.size + 1 = g2 := ⟨_, rfl⟩
  obtain ⟨W, hW⟩ : ∃ W, (w.alloc (.cells (erow E A c) 32)).alloc (.cells (erow F A' c') 32) = W := ⟨_, rfl⟩
  have HG := Lib.hid (And.intro hg1 (And.intro hg2 hW))
  rw [hg1, hW] at hB1
  rw [hg2, hW] at hB2
  rw [hW] at hO
  have HO := Lib.hid hO
  have HCE := str_u c (hE.1.only hO) rfl
  have HCF := str_u c' (hF.1.only hO) rfl
  have c0 : W.cell? ⟨g1, 0, none⟩ = some (.string (B E.path)) := Joins.cell_of_block hB1 0
  have c1 : W.cell? ⟨g1, 1, none⟩ = some (.int .i64 E.kind) := Joins.cell_of_block hB1 1
  have c2 : W.cell? ⟨g1, 2, none⟩ = some (.int .i64 E.mode) := Joins.cell_of_block hB1 2
  have c3 : W.cell? ⟨g1, 3, none⟩ = some (.int .i64 E.uid) := Joins.cell_of_block hB1 3
  have c4 : W.cell? ⟨g1, 4, none⟩ = some (.int .i64 E.gid) := Joins.cell_of_block hB1 4
  have c5 : W.cell? ⟨g1, 5, none⟩ = some (.float .f64 E.time) := Joins.cell_of_block hB1 5
  have c6 : W.cell? ⟨g1, 6, none⟩ = some (.string (B E.target)) := Joins.cell_of_block hB1 6
  have c7 : W.cell? ⟨g1, 7, none⟩ = some (.slice A E.data.length c) := Joins.cell_of_block hB1 7
  have d0 : W.cell? ⟨g2, 0, none⟩ = some (.string (B F.path)) := Joins.cell_of_block hB2 0
  have d1 : W.cell? ⟨g2, 1, none⟩ = some (.int .i64 F.kind) := Joins.cell_of_block hB2 1
  have d2 : W.cell? ⟨g2, 2, none⟩ = some (.int .i64 F.mode) := Joins.cell_of_block hB2 2
  have d3 : W.cell? ⟨g2, 3, none⟩ = some (.int .i64 F.uid) := Joins.cell_of_block hB2 3
  have d4 : W.cell? ⟨g2, 4, none⟩ = some (.int .i64 F.gid) := Joins.cell_of_block hB2 4
  have d5 : W.cell? ⟨g2, 5, none⟩ = some (.float .f64 F.time) := Joins.cell_of_block hB2 5
  have d6 : W.cell? ⟨g2, 6, none⟩ = some (.string (B F.target)) := Joins.cell_of_block hB2 6
  have d7 : W.cell? ⟨g2, 7, none⟩ = some (.slice A' F.data.length c') := Joins.cell_of_block hB2 7
  have HS : sameL E F = (decide (E.path = F.path) && (decide (E.kind = F.kind) && (decide (E.mode = F.mode) && (decide (E.uid = F.uid) && (decide (E.gid = F.gid) && (tSame E.time F.time && (decide (E.target = F.target) && decide (E.data = F.data)))))))) := rfl
  have e0 := str_eqB E.path F.path
  have e1 := int_eqd E.kind F.kind
  have e2 := int_eqd E.mode F.mode
  have e3 := int_eqd E.uid F.uid
  have e4 := int_eqd E.gid F.gid
  have e6 := str_eqB E.target F.target
  have e7 := str_eqB E.data F.data
  have HT := Lib.hid (tsame_any E.time F.time W)
  have HBy := Lib.hid (fun (n1 n2 : Nat) h1 h2 => sh_bytes_Equal_strs (.slice A n1 c) (.slice A' n2 c') (B E.data) (B F.data) W h1 h2)
  obtain ⟨b0, h0⟩ : ∃ b0 : Bool, decide (E.path = F.path) = b0 := ⟨_, rfl⟩
  obtain ⟨b1, h1⟩ : ∃ b1 : Bool, decide (E.kind = F.kind) = b1 := ⟨_, rfl⟩
  obtain ⟨b2, h2⟩ : ∃ b2 : Bool, decide (E.mode = F.mode) = b2 := ⟨_, rfl⟩
  obtain ⟨b3, h3⟩ : ∃ b3 : Bool, decide (E.uid = F.uid) = b3 := ⟨_, rfl⟩
  obtain ⟨b4, h4⟩ : ∃ b4 : Bool, decide (E.gid = F.gid) = b4 := ⟨_, rfl⟩
  obtain ⟨b5, h5⟩ : ∃ b5 : Bool, tSame E.time F.time = b5 := ⟨_, rfl⟩
  obtain ⟨b6, h6⟩ : ∃ b6 : Bool, decide (E.target = F.target) = b6 := ⟨_, rfl⟩
  obtain ⟨b7, h7⟩ : ∃ b7 : Bool, decide (E.data = F.data) = b7 := ⟨_, rfl⟩
  rw [h0, h1, h2, h3, h4, h5, h6, h7] at HS
  rw [h0] at e0; rw [h1] at e1; rw [h2] at e2; rw [h3] at e3; rw [h4] at e4; rw [h5] at HT; rw [h6] at e6; rw [h7] at e7; rw [e7] at HBy
  replace HS := Lib.hid HS
  obtain ⟨n1, hn1⟩ : ∃ n1, E.data.length = n1 := ⟨_, rfl⟩
  obtain ⟨n2, hn2⟩ : ∃ n2, F.data.length = n2 := ⟨_, rfl⟩
  rw [hn1] at c7 HCE
  rw [hn2] at d7 HCF
  replace HBy := Lib.hid (HBy.out n1 n2 HCE HCF)
  clear h0 h1 h2 h3 h4 h5 h6 h7 hO1 hO2 hB1 hB2 hO hg1 hg2 hW hs hE hF hn1 hn2
  go_enter Tryd.func14, Tryd.ntmps14
  go_upto_region 1 with (fail)
  change Code.wp Tryd.prog _ _ _ ((w.alloc (.cells (erow E A c) 32)).alloc (.cells (erow F A' c') 32))
  rw [HG.out.2.2, HG.out.1]
  try rw [show g1 + 1 = g2 by have := HG.out; omega]
  rcases way b0 (way b1 (way b2 (way b3 (way b4 (way b5 (way b6 (ways b7))))))) with rfl | ⟨rfl, rfl | ⟨rfl, rfl | ⟨rfl, rfl | ⟨rfl, rfl | ⟨rfl, rfl | ⟨rfl, rfl | ⟨rfl, rfl | rfl⟩⟩⟩⟩⟩⟩⟩
  all_goals
    go_wp2_with (first
      | (go_at_call 31; (with_reducible refine HT.out.mono ?_); rintro x w1 ⟨rfl, rfl⟩)
      | (go_at_call 32; (with_reducible refine HBy.out.mono ?_); rintro x w1 ⟨rfl, rfl⟩))
    go_ret
    exact ⟨by rw [HS.out]; rfl, HO.out⟩
end Go.Proofs.YtihcdecdkpbpmaaDoor.Walks
