/- Contract of the reference's Nodes: two slices that read as the same tree are the same. -/
import Derived.Test.YtihcdecdkpbpmaaDoorTld
import Derived.Test.YtihcdecdkpbpmaaDoorLater
import Derived.Test.YtihcdecdkpbpmaaDoorOpen
import Derived.Test.YtihcdecdkpbpmaaDoorRSame
import Derived.BigQuiet
namespace Go.Proofs.YtihcdecdkpbpmaaDoor.Walks
open Go Go.RowKit Go.Proofs.YtihcdecdkpbpmaaDoor.Aid Go.Proofs.YtihcdecdkpbpmaaDoor.Pth Go.Proofs.YtihcdecdkpbpmaaDoor.Own Go.Proofs.YtihcdecdkpbpmaaDoorW.PrintWords

theorem rdN_cells {U : Nat → Prop} {w : World} {A : Option Addr} {n c : Nat} {ns : List Nd} (h : RdN U w (.slice A n c) ns) {i : Nat} {N : Nd} (hi : ns[i]? = some N) :
    ∃ ad, A = some ad ∧ w.cell? (ad.add (i * 3)) = some (.string (B N.name)) ∧ w.cell? ⟨(ad.add (i * 3)).block, (ad.add (i * 3)).off + 1, none⟩ = some (.int .i64 N.ent) ∧ w.cell? ⟨(ad.add (i * 3)).block, (ad.add (i * 3)).off + 2, none⟩ = some (.slice N.A N.n N.c) := by
  obtain ⟨A', c', e, h⟩ := h
  injection e with e1 _ _
  obtain ⟨ad, e2, _, hc⟩ := h i N hi
  refine ⟨ad, e1.trans e2, ?_, ?_, ?_⟩
  · have := hc 0 _ rfl
    exact this
  · have := hc 1 _ rfl
    rwa [Aid.add_field _ _ _ (by decide)] at this
  · have := hc 2 _ rfl
    rwa [Aid.add_field _ _ _ (by decide)] at this
theorem int_beq_refl (x : Int) : (x != x) = false := by simp
theorem list_beq_refl (l : List UInt8) : (l != l) = false := by simp
attribute [-go_sem] loadVar
attribute [local go_sem] lv9 lv3 lvN
def TruePost (w : World) (e : Ending) (w' : World) : Prop := e = .returned (.bool true) ∧ Only (fun _ => False) w w'
set_option maxRecDepth 100000 in
set_option maxHeartbeats 4000000 in
theorem nodes_step {U U' : Nat → Prop} {P : List (List Str)} {d : Nat} {f : List Str} {w : World} {a b : Value} (hP : P.length ≤ 12) (ha : TreeIn U P (d + 1) f w a) (hb : TreeIn U' P (d + 1) f w b)
    (hK : ∀ u a' b' g, Only (fun _ => False) w u → TreeIn U P d g u a' → TreeIn U' P d g u b' → Calls Tryd.prog 19 #[a', b'] u (fun e w' => e = .returned (.bool true) ∧ Only (fun _ => False) u w')) :
    Calls Tryd.prog 19 #[a, b] w (TruePost w) := by
  obtain ⟨ns, hrn, hnn, hkn⟩ := ha
  obtain ⟨ms, hrm, hmm, hkm⟩ := hb
  have hlen : ns.length = ms.length := by have := congrArg List.length (hnn.trans hmm.symm); rwa [List.length_map, List.length_map] at this
  have hb1 : ns.length ≤ 12 := by
    have h1 := congrArg List.length hnn
    rw [List.length_map] at h1
    have := kidN_len P f
    omega
  have hrn0 := hrn
  have hrm0 := hrm
  obtain ⟨A, c, rfl, _⟩ := hrn0
  obtain ⟨A', c', rfl, _⟩ := hrm0
  have HRn := Lib.hid hrn
  have HRm := Lib.hid hrm
  have HNm := Lib.hid (hnn.trans hmm.symm)
  have HKn := Lib.hid hkn
  have HKm := Lib.hid hkm
  have HK := Lib.hid hK
  rw [← hlen] at HRm ⊢
  have HL := Lib.hid hlen
  obtain ⟨n, hn⟩ : ∃ n, ns.length = n := ⟨_, rfl⟩
  have HN := Lib.hid hn
  rw [hn] at HRn HRm hb1 ⊢
  have b0 : n ≤ 12 := hb1
  clear hrn hrm hnn hmm hkn hkm hK hlen hn hb1 hP
  go_enter Tryd.func19, Tryd.ntmps19
  go_wp2_with fail
  go_loopw [5] (fun v5 u => ∃ i : Nat, v5 = .int .i64 (i : Int) ∧ i ≤ n ∧ Hid (Only (fun _ => False) w u)) (fun i _ => n - (intOf i).toNat)
  case atStart => exact ⟨0, rfl, by omega, Lib.hid (Only.refl _ w)⟩
  case round =>
    obtain ⟨i, rfl, hi, HU⟩ := hrel
    by_cases ci : i < n
    · have e1 : decide ((i : Int) < (n : Int)) = true := decide_eq_true (by omega)
      have e1' : decide (i < n) = true := decide_eq_true ci
      have e2 : (i : Int) < (n : Int) := by omega
      obtain ⟨N, hN⟩ : ∃ N, ns[i]? = some N := ⟨_, List.getElem?_eq_getElem (by rw [HN.out]; exact ci)⟩
      obtain ⟨M, hM⟩ : ∃ M, ms[i]? = some M := ⟨_, List.getElem?_eq_getElem (by rw [← HL.out, HN.out]; exact ci)⟩
      have hname : M.name = N.name := by
        have h1 : (ns.map (·.name))[i]? = some N.name := by rw [List.getElem?_map, hN]; rfl
        have h2 : (ms.map (·.name))[i]? = some M.name := by rw [List.getElem?_map, hM]; rfl
        rw [HNm.out, h2] at h1
        exact Option.some.inj h1
      obtain ⟨g1, g2⟩ := HKn.out N (List.mem_of_getElem? hN)
      obtain ⟨g3, g4⟩ := HKm.out M (List.mem_of_getElem? hM)
      rw [hname] at g3 g4
      have hent : M.ent = N.ent := g3.trans g1.symm
      obtain ⟨ad, rfl, x0, x1, x2⟩ := rdN_cells (HRn.out.only HU.out (fun _ _ _ => id)) hN
      obtain ⟨ad', rfl, y0, y1, y2⟩ := rdN_cells (HRm.out.only HU.out (fun _ _ _ => id)) hM
      rw [hname] at y0
      rw [hent] at y1
      have HC := Lib.hid (fun x : Later wr => HK.out x.w N.kids M.kids (f ++ [N.name]) (HU.out.trans' x.h) (g2.only (HU.out.trans' x.h) (fun _ _ _ => id)) (g4.only (HU.out.trans' x.h) (fun _ _ _ => id)))
      unfold Nd.kids at HC
      obtain ⟨T, hT⟩ : ∃ T, B N.name = T := ⟨_, rfl⟩
      rw [hT] at x0 y0
      obtain ⟨e, he⟩ : ∃ e, N.ent = e := ⟨_, rfl⟩
      rw [he] at x1 y1
      obtain ⟨X1, hX1⟩ : ∃ X1, N.A = X1 := ⟨_, rfl⟩
      obtain ⟨X2, hX2⟩ : ∃ X2, N.n = X2 := ⟨_, rfl⟩
      obtain ⟨X3, hX3⟩ : ∃ X3, N.c = X3 := ⟨_, rfl⟩
      obtain ⟨Y1, hY1⟩ : ∃ Y1, M.A = Y1 := ⟨_, rfl⟩
      obtain ⟨Y2, hY2⟩ : ∃ Y2, M.n = Y2 := ⟨_, rfl⟩
      obtain ⟨Y3, hY3⟩ : ∃ Y3, M.c = Y3 := ⟨_, rfl⟩
      rw [hX1, hX2, hX3] at x2 HC
      rw [hY1, hY2, hY3] at y2 HC
      have z0 : ∀ x : Later wr, x.w.cell? (ad.add (i * 3)) = some (.string T) := fun x => x.h.cell x0 id
      have z1 : ∀ x : Later wr, x.w.cell? ⟨(ad.add (i * 3)).block, (ad.add (i * 3)).off + 1, none⟩ = some (.int .i64 e) := fun x => x.h.cell x1 id
      have z2 : ∀ x : Later wr, x.w.cell? ⟨(ad.add (i * 3)).block, (ad.add (i * 3)).off + 2, none⟩ = some (.slice X1 X2 X3) := fun x => x.h.cell x2 id
      have z3 : ∀ x : Later wr, x.w.cell? (ad'.add (i * 3)) = some (.string T) := fun x => x.h.cell y0 id
      have z4 : ∀ x : Later wr, x.w.cell? ⟨(ad'.add (i * 3)).block, (ad'.add (i * 3)).off + 1, none⟩ = some (.int .i64 e) := fun x => x.h.cell y1 id
      have z5 : ∀ x : Later wr, x.w.cell? ⟨(ad'.add (i * 3)).block, (ad'.add (i * 3)).off + 2, none⟩ = some (.slice Y1 Y2 Y3) := fun x => x.h.cell y2 id
      have q1 := list_beq_refl T.toList
      have q2 := int_beq_refl e
      clear g1 g2 g3 g4 hN hM hname hent hT he hX1 hX2 hX3 hY1 hY2 hY3 x0 x1 x2 y0 y1 y2
      go_upto_region 6 with (fail)
      refine wp_region_later (by kernel_rfl) (by kernel_rfl) ?_
      repeat (go_big_quiet_step ((go_at_call 19; exact Calls.later (HC.out _))))
      refine wpQuiet_nil ?_
      rintro u ⟨x, hx⟩
      have hu := x.h
      rw [← hx] at hu
      clear hx
      replace HU := Lib.hid (HU.out.trans' hu)
      go_wp2_with fail
      exact ⟨⟨i + 1, by simp, by omega, HU⟩, by simp [intOf]; omega⟩
    · have e1 : decide ((i : Int) < (n : Int)) = false := decide_eq_false (by omega)
      have e1' : decide (i < n) = false := decide_eq_false ci
      go_wp2_with fail
      go_ret
      exact ⟨rfl, HU.out⟩
theorem nodes_any {U U' : Nat → Prop} {P : List (List Str)} (hP : P.length ≤ 12) : ∀ (d : Nat) (f : List Str) (w : World) (a b : Value), TreeIn U P d f w a → TreeIn U' P d f w b → Calls Tryd.prog 19 #[a, b] w (fun e w' => e = .returned (.bool true) ∧ Only (fun _ => False) w w')
  | 0, _, _, _, _, ha, _ => ha.elim
  | d + 1, _, _, _, _, ha, hb => nodes_step hP ha hb fun u a' b' g _ h1 h2 => nodes_any hP d g u a' b' h1 h2
end Go.Proofs.YtihcdecdkpbpmaaDoor.Walks
