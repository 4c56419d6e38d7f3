/- The law 'a budget answers as the document says' answers true, whatever the limits and the ops. -/
import Derived.Test.YtilkgjjfamdhdaaRef
import Derived.Test.YtilkgjjfamdhdaaOps
import Derived.Test.YtilkgjjfamdhdaaAid
import Derived.Deep.LoopGhost
import Derived.Deep.CutRange
import Derived.Deep.DeepCutAuto
import Derived.Deep.RegionHeld3
namespace Go.Proofs.Ytilkgjjfamdhdaa.Walks
open Go Go.RowKit Go.Proofs.Ytilkgjjfamdhdaa.Aid

attribute [local go_sem] run_store_float
theorem new_no (e t n p : Int) (r : Nat) (w : World) (hm : mayB e t n p = false) : Calls Try.prog 12 #[lim e t n p r] w fun x w' => x = .returned (.tuple #[.pointer none, .int .i64 1]) ∧ Below w.heap.size w w' := by
  refine (new_any e t n p r w).mono fun x w' h => ?_
  unfold NewPost at h
  rw [if_neg (by rw [hm]; decide)] at h
  exact h
def Box5 (w : World) (b : Nat) (e t n p : Int) (r : Nat) : Prop := w.cell? ⟨b, 0, none⟩ = some (.int .i64 e) ∧ w.cell? ⟨b, 1, none⟩ = some (.int .i64 t) ∧ w.cell? ⟨b, 2, none⟩ = some (.int .i64 n) ∧ w.cell? ⟨b, 3, none⟩ = some (.int .i64 p) ∧ w.cell? ⟨b, 4, none⟩ = some (.float .f64 r)
theorem Box5.below {w w1 : World} {b : Nat} {e t n p : Int} {r : Nat} (h : Box5 w b e t n p r) (hb : Below w.heap.size w w1) : Box5 w1 b e t n p r := by
  obtain ⟨h0, h1, h2, h3, h4⟩ := h
  have kp : ∀ {a : Addr} {v : Value}, w.cell? a = some v → w1.cell? a = some v := fun {a v} hc => (hb.cell (World.block_lt_of_cell? w a hc)).trans hc
  exact ⟨kp h0, kp h1, kp h2, kp h3, kp h4⟩
theorem Box5.belowD {w w1 : World} {b : Nat} {e t n p : Int} {r : Nat} (h : Box5 w b e t n p r) (hb : Below w.drew.heap.size w.drew w1) : Box5 w1 b e t n p r := Box5.below (w := w.drew) h hb
theorem Box5.new (w : World) (e t n p : Int) (r : Nat) (ty : TypeId) : Box5 (w.alloc (.cells #[.int .i64 e, .int .i64 t, .int .i64 n, .int .i64 p, .float .f64 r] ty)) w.heap.size e t n p r := by
  refine ⟨?_, ?_, ?_, ?_, ?_⟩ <;> simp
set_option maxRecDepth 100000 in
set_option maxHeartbeats 1000000 in
theorem plays_no (e t n p : Int) (r : Nat) (A : Option Addr) (len cap : Nat) (w : World) (hm : mayB e t n p = false) :
    Calls Try.prog 5 #[.agg #[.int .i64 e, .int .i64 t, .int .i64 n, .int .i64 p, .float .f64 r], .slice A len cap] w fun x w' => x = .returned (.bool true) ∧ Below w.heap.size w w' := by
  go_enter Try.func5, Try.ntmps5
  go_wp2_with fail
  go_at_call 12
  refine (new_no e t n p r _ hm).mono ?_
  rintro x w1 ⟨rfl, hbl⟩
  have hz : w.heap.size < w1.heap.size := by have := hbl.size; simp at this; omega
  have HB0 := Lib.hid (((Below.refl w.heap.size w).alloc (Nat.le_refl _) _).trans (hbl.mono (by simp)))
  have HX := Lib.hid ((Box5.new w e t n p r 28).below hbl)
  clear hbl
  obtain ⟨k0, k1, k2, k3, k4⟩ := HX.out
  go_upto_region 2 with (fail)
  go_cut [22] (fun c wx => c = .bool false ∧ Below w1.heap.size w1 wx)
  case first =>
    go_region_with (first | (go_at_call 13; refine (may_any e t n p r w1.drew).mono ?_; rintro x wa ⟨rfl, hba⟩; obtain ⟨_, _, _, _, _⟩ := HX.out.belowD hba) | (go_at_call 14; refine (limits_any e t n p r w1.drew).mono ?_; rintro x wa ⟨rfl, hba⟩; obtain ⟨_, _, _, _, _⟩ := HX.out.belowD hba) | (go_at_call 13; refine (may_any e t n p r _).mono ?_; rintro x wb ⟨rfl, hbb⟩) | (go_at_call 14; refine (limits_any e t n p r _).mono ?_; rintro x wb ⟨rfl, hbb⟩))
    all_goals (go_wp2_with fail; go_meet; exact ⟨rfl, (((((Only.refl (fun _ => False) w1).drew).trans' (Only.of_below hba (fun _ => False))).trans' (Only.of_below hbb (fun _ => False)))).none⟩)
  case rest =>
    obtain ⟨rfl, hbw⟩ := hcut
    have HX2 := Lib.hid (HX.out.below hbw)
    have HB1 := Lib.hid (HB0.out.trans (hbw.mono (by omega)))
    clear HX HB0 hbw k0 k1 k2 k3 k4
    obtain ⟨k0, k1, k2, k3, k4⟩ := HX2.out
    go_wp2_with fail
    go_at_call 14
    refine (limits_any e t n p r wc).mono ?_
    rintro x w2 ⟨rfl, hb2⟩
    go_wp2_with fail
    go_at_call 8
    refine (told_any _).mono ?_
    rintro x w3 ⟨rfl, hb3⟩
    go_wp2_with fail
    go_at_call 15
    refine (begin_nil _ _).mono ?_
    rintro x w4 ⟨rfl, rfl⟩
    go_wp2_with fail
    go_at_call 16
    refine (room_nil _).mono ?_
    rintro x w4 ⟨rfl, rfl⟩
    go_wp2_with fail
    go_ret
    exact ⟨rfl, (((Only.of_below HB1.out (fun _ => False)).trans' (Only.of_below hb2 (fun _ => False))).trans' (Only.of_below hb3 (fun _ => False))).none⟩
end Go.Proofs.Ytilkgjjfamdhdaa.Walks
