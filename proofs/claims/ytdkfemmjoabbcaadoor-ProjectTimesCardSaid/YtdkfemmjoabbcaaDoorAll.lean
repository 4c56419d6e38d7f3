/- Contracts of project.One (every format, every time) and project.All. -/
import Derived.Test.YtdkfemmjoabbcaaDoorFns
import Derived.Test.YtdkfemmjoabbcaaDoorAppE
namespace Go.Proofs.YtdkfemmjoabbcaaDoor.Walks
open Go Go.RowKit Go.Proofs.YtdkfemmjoabbcaaDoor.Aid Go.Proofs.YtdkfemmjoabbcaaDoor.Pth Go.Proofs.YtdkfemmjoabbcaaDoor.Own Go.Proofs.YtdkfemmjoabbcaaDoorW.PrintWords

/-- An entry as a format holds it. -/
def oneT (E : Ent) (fm : Int) : Ent := oneL E fm (zipF E.time)
theorem onep_any (E : Ent) (A : Option Addr) (c : Nat) (fm : Int) (w : World) (hE : EOk E) (hm : MaxLen w) (hA : EntAt w E A c) :
    Calls Tryd.prog 10 #[eval E A c, .int .i64 fm] w (OnePost (oneT E fm) w) :=
  one_any E A c fm w hE hm hA (fun _ => fine_ok _) (fun _ => unix_ok _) _ (fun _ => ⟨_, fun u => dos_any E.time u, fun u => dos_back E.time u⟩)
theorem oneT_data (E : Ent) (fm : Int) : (oneT E fm).data = E.data := by
  unfold oneT oneL
  by_cases h2 : fm = 2
  · rw [if_pos h2]
  · rw [if_neg h2]
    by_cases h3 : fm = 3
    · rw [if_pos h3]
    · rw [if_neg h3]
      by_cases h1 : fm = 1
      · rw [if_pos h1]
      · rw [if_neg h1]
        by_cases h4 : fm = 4
        · rw [if_pos h4]
        · rw [if_neg h4]
          by_cases h5 : fm = 5
          · rw [if_pos h5]
          · rw [if_neg h5]
/-- Slices of entries that a call hands back. -/
def ListEPost (l : List Ent) (w : World) (x : Ending) (w' : World) : Prop := ∃ A c M, x = .returned (.slice A l.length c) ∧ l.length ≤ c ∧ RdE w' A l M ∧ Only (fun _ => False) w w'
theorem map_take_snoc {α β : Type} (f : α → β) {l : List α} {i : Nat} {d : α} (hi : i < l.length) : (l.take (i + 1)).map f = (l.take i).map f ++ [f (l.getD i d)] := by
  rw [List.take_add_one, List.map_append, List.getElem?_eq_getElem hi, List.getD_eq_getElem?_getD, List.getElem?_eq_getElem hi]; rfl
set_option maxRecDepth 100000 in
set_option maxHeartbeats 4000000 in
theorem all_any {w : World} {A : Option Addr} {l : List Ent} {n c : Nat} {M : Nat → Option Addr × Nat} (fm : Int) (hn : l.length = n) (hl : n ≤ 100000) (hR : RdE w A l M) (hE : EsOk l) (hm : MaxLen w) :
    Calls Tryd.prog 16 #[.slice A n c, .int .i64 fm] w (ListEPost (l.map (oneT · fm)) w) := by
  have HN := Lib.hid hn
  have HR := Lib.hid hR
  have HE := Lib.hid hE
  have HM := Lib.hid hm
  have b1 : n ≤ 100000 := hl
  clear hn hl hR hE hm
  go_enter Tryd.func16, Tryd.ntmps16
  go_wp2_with fail
  go_loopw [5, 10] (fun v5 v10 u => ∃ i : Nat, v10 = .int .i64 (i : Int) ∧ i ≤ n ∧ Hid (Only (fun _ => False) w u) ∧ ∃ es : List Ent3, Hid (OwnE w.heap.size u v5 es) ∧ Hid (es.map (·.1) = (l.take i).map (oneT · fm))) (fun _ i _ => n - (intOf i).toNat)
  case atStart => exact ⟨0, rfl, by omega, Lib.hid (Only.refl _ _), [], Lib.hid (ownE_nil _ _), Lib.hid (by rw [List.take_zero]; rfl)⟩
  case round =>
    obtain ⟨i, rfl, hi, HU, es, HO, HEs⟩ := hrel
    by_cases ci : i < n
    · have e1 : decide ((i : Int) < (n : Int)) = true := decide_eq_true (by omega)
      have e1' : decide (i < n) = true := decide_eq_true ci
      have e2 : (i : Int) < (n : Int) := by omega
      have hil : i < l.length := by rw [HN.out]; exact ci
      obtain ⟨ad, rfl, hat, hen⟩ := (HR.out.only HU.out).at hil
      have hEm : l.getD i e0 ∈ l := by rw [List.getD_eq_getElem?_getD, List.getElem?_eq_getElem hil]; exact List.getElem_mem hil
      have hEo := (HE.out _ hEm).1
      have HOn := Lib.hid (fun u (h : Only (fun _ => False) wr u) => onep_any (l.getD i e0) (M i).1 (M i).2 fm u hEo (HM.out.only (HU.out.trans' h)) (hen.only h))
      have HTk := Lib.hid (map_take_snoc (oneT · fm) (d := e0) hil)
      have HLe := Lib.hid (show es.length ≤ 100000 by
        have := congrArg List.length HEs.out
        rw [List.length_map, List.length_map, List.length_take] at this
        omega)
      obtain ⟨E, hE⟩ : ∃ E, l.getD i e0 = E := ⟨_, rfl⟩
      obtain ⟨B1, hB1⟩ : ∃ B1, (M i).1 = B1 := ⟨_, rfl⟩
      obtain ⟨c1, hc1⟩ : ∃ c1, (M i).2 = c1 := ⟨_, rfl⟩
      rw [hE, hB1, hc1] at hat HOn
      rw [hE] at HTk
      have HC := Lib.hid (show ∀ j v, (erow E B1 c1)[j]? = some v → wr.cell? ((ad.add (i * 8)).add j) = some v from hat)
      clear hE hB1 hc1 hat hen hEm hEo hil
      go_wp2_with (first
        | ((with_reducible refine gate 13 rfl ?_); refine load_entA rfl _ rfl rfl HC.out ?_)
        | ((with_reducible refine gate_store 25 rfl ?_); refine store_newE rfl rfl E B1 c1 _ _ rfl rfl rfl ?_; intro w3 hb3 ho3; have HB3 := Lib.hid hb3; have HO3 := Lib.hid ho3; clear hb3 ho3)
        | ((with_reducible refine gate 15 rfl ?_); refine load_ent rfl _ rfl rfl HB3.out ?_)
        | (go_at_call 10; refine (HOn.out _ HO3.out).mono ?_; rintro x w4 ⟨A4, k4, rfl, hE4, ho4, hnw4⟩; have HE4 := Lib.hid hE4; have HO4 := Lib.hid (HO3.out.trans' ho4); have HNw := Lib.hid (show ∀ ad, A4 = some ad → 0 < (oneT E fm).data.length → wr.heap.size ≤ ad.block from fun ad e h => Nat.le_trans HO3.out.size (hnw4 ad e h)); clear hE4 ho4 hnw4)
        | ((with_reducible refine gate 18 rfl ?_); refine build1 rfl _ rfl (oneT E fm, A4, k4) rfl (fun d hd => by rw [List.mem_singleton.1 hd]; exact HE4.out) ?_; intro b5 w5 hr5 ho5; have HR5 := Lib.hid hr5; have HO5 := Lib.hid (HO4.out.trans' ho5); clear hr5 ho5)
        | ((with_reducible refine gate 19 rfl ?_)
           refine ownE_append (base := w.heap.size) rfl _ _ rfl u5 es (oneT E fm, A4, k4) b5 1 rfl rfl (ownE_only HO.out HO5.out) _ rfl HR5.out ?_ ?_ HLe.out ?_
           · intro ad9 e9 h9 h10
             have := (ownE_lt HO.out h10.symm).1
             have := HNw.out ad9 e9 h9
             omega
           · have := HU.out.size
             have := HO5.out.size
             omega
           intro v7 w7 hO7 ho7
           have HO7 := Lib.hid hO7
           have HU7 := Lib.hid ((HU.out.trans' HO5.out).trans ho7 (fun k hk => Or.inr hk))
           clear hO7 ho7))
      exact ⟨⟨i + 1, by simp, by omega, HU7, _, HO7, Lib.hid (by rw [List.map_append, HEs.out, HTk.out]; rfl)⟩, by simp [intOf]; omega⟩
    · have e1 : decide ((i : Int) < (n : Int)) = false := decide_eq_false (by omega)
      have e1' : decide (i < n) = false := decide_eq_false ci
      obtain rfl : i = n := by omega
      have hrd := ownE_rd HO.out
      have hmap : es.map (·.1) = l.map (oneT · fm) := by rw [HEs.out, ← HN.out, List.take_length]
      rw [hmap] at hrd
      have hlen : es.length = (l.map (oneT · fm)).length := by rw [← hmap, List.length_map]
      obtain ⟨A9, c9, hv9, hc9, hr9⟩ := hrd
      have HV := Lib.hid hv9
      have HPost := Lib.hid (show ListEPost (l.map (oneT · fm)) w (.returned u5) wr from ⟨A9, c9, _, by rw [hv9, hlen], by rw [← hlen]; exact hc9, hr9, HU.out⟩)
      clear hv9 hc9 hr9 hmap hlen
      go_wp2_with fail
      go_ret
      exact HPost.out
end Go.Proofs.YtdkfemmjoabbcaaDoor.Walks
