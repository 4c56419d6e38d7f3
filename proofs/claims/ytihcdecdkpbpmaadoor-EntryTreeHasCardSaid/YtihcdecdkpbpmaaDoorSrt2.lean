/- Contract of slices.SortFunc at the call's own slice of at most 12 nodes (over the library's contract). -/
import Derived.Test.YtihcdecdkpbpmaaDoorSrt
import Derived.Test.YtihcdecdkpbpmaaDoorShelfB
import Derived.Test.YtihcdecdkpbpmaaDoorNdS
namespace Go.Proofs.YtihcdecdkpbpmaaDoor.Walks
open Go Go.RowKit Go.Proofs.YtihcdecdkpbpmaaDoor.Aid Go.Proofs.YtihcdecdkpbpmaaDoor.Pth Go.Proofs.YtihcdecdkpbpmaaDoor.Own Go.Proofs.YtihcdecdkpbpmaaDoorW.PrintWords Go.Sort

instance : Inhabited Nd := ⟨⟨[], 0, none, 0, 0⟩⟩
def encN (N : Nd) : List Value := (nrow N).toList
def cmpN (x y : Nd) : Int := Lib.compareBytes x.name y.name
theorem ltN (x y : Nd) : Go.Proofs.ltOf cmpN x y = Op.bytesLess x.name y.name := by
  unfold Go.Proofs.ltOf cmpN
  cases h : Op.bytesLess x.name y.name with
  | true => exact decide_eq_true (cmp_neg.2 h)
  | false => exact decide_eq_false (fun h2 => by rw [cmp_neg.1 h2] at h; cases h)
theorem swoN : SWO (Go.Proofs.ltOf cmpN) where
  irrefl x := by rw [ltN]; exact bl_irrefl _
  trans x y z h1 h2 := by rw [ltN] at *; exact bl_trans h1 h2
  ntrans x y z h1 h2 := by
    rw [ltN] at *
    cases h : Op.bytesLess x.name z.name with
    | false => rfl
    | true =>
      by_cases e : y.name = x.name
      · rw [← e, h2] at h; cases h
      · have h3 : Op.bytesLess y.name x.name = true := by
          cases h4 : Op.bytesLess y.name x.name with
          | true => rfl
          | false => exact absurd (bl_tri h4 h1) e
        rw [bl_trans h3 h] at h2; cases h2
theorem nbytes (N : Nd) : (B N.name).data.toList = N.name := B_data _
set_option maxRecDepth 100000 in
set_option maxHeartbeats 4000000 in
/-- The closure. -/
theorem closureN (x y : Nd) (W : World) : Calls Tryd.prog 43 #[nval x, nval y] W fun e w' => e = .returned (.int .i64 (cmpN x y)) ∧ ∃ q os', w' = grow (W.drewN q) os' := by
  have hcon := Lib.hid (fun W' => sh_strings_Compare (B x.name) (B y.name) W')
  have hr : Lib.compareBytes (B x.name).data.toList (B y.name).data.toList = cmpN x y := by rw [B_data, B_data]; rfl
  rw [hr] at hcon
  clear hr
  obtain ⟨r, hr⟩ : ∃ r, cmpN x y = r := ⟨_, rfl⟩
  rw [hr] at hcon ⊢
  clear hr
  unfold nval nrow
  go_enter Tryd.func43, Tryd.ntmps43
  go_wp2_with (go_at_call 44; refine (hcon.out _).mono ?_; rintro e w' ⟨rfl, rfl⟩)
  go_ret
  exact ⟨rfl, 0, _, by rw [alloc_eq_grow, alloc_eq_grow, grow_grow]; rfl⟩
theorem flatK_eq (d : Array Nd) : (flatK encN 3 d).toList = flatN d.toList := by
  apply List.ext_getElem?
  intro t
  by_cases ht : t < d.size * 3
  · have h1 := get_flatK encN 3 d t ht
    have hs : t < (flatK encN 3 d).size := by rw [size_flatK]; exact ht
    rw [getElem!_pos _ t hs] at h1
    rw [Array.getElem?_toList, Array.getElem?_eq_getElem hs, h1]
    have hq : t / 3 < d.size := by omega
    have h2 := flatN_get d.toList (t / 3) (t % 3) d[t / 3] (by rw [Array.getElem?_toList]; exact Array.getElem?_eq_getElem hq) (by omega)
    rw [show t / 3 * 3 + t % 3 = t by omega] at h2
    rw [h2, getElem!_pos d (t / 3) hq]
    have h3 : t % 3 < (encN d[t / 3]).length := by show t % 3 < 3; omega
    rw [getElem!_pos (encN d[t / 3]) (t % 3) h3]
    exact (List.getElem?_eq_getElem h3).symm.trans (by unfold encN; rw [Array.getElem?_toList])
  · rw [List.getElem?_eq_none (by rw [Array.length_toList, size_flatK]; omega), List.getElem?_eq_none (by rw [flatN_len, Array.length_toList]; omega)]
theorem flatK_at (ns : List Nd) {j : Nat} (hj : j < ns.length * 3) : (flatN ns)[j]? = some ((flatK encN 3 ns.toArray)[j]!) := by
  have h := flatK_eq ns.toArray
  have hs : j < (flatK encN 3 ns.toArray).size := by rw [size_flatK]; exact hj
  have h1 : (flatK encN 3 ns.toArray)[j]! = (flatK encN 3 ns.toArray)[j] := getElem!_pos _ j hs
  have h2 : (flatK encN 3 ns.toArray).toList[j]? = some ((flatK encN 3 ns.toArray)[j]) := by rw [Array.getElem?_toList]; exact Array.getElem?_eq_getElem hs
  rw [h] at h2
  rw [h1]; exact h2
theorem sort_any {w : World} {base : Nat} {v : Value} {ns : List Nd} (HO : OwnN base w v ns) (hl : ns.length ≤ 12) :
    Calls Tryd.prog 42 #[v, .func (.func 43) #[] #[]] w (fun x w' => x = .returned (.tuple #[]) ∧ ∃ ms : List Nd, ms.Perm ns ∧ ms.Pairwise (fun a b => Op.bytesLess b.name a.name = false) ∧ OwnN base w' v ms ∧ Only (fun k => some k = v.ownBlock) w w') := by
  rcases HO.2 with ⟨rfl, h0⟩ | ⟨g, cap, cur, rfl, hb, hg, hn, hc, hs, ht⟩
  · have hnil : ns = [] := List.eq_nil_of_length_eq_zero h0
    subst hnil
    exact (sort_1 w none 0 0 _ (by decide)).mono fun x w' ⟨h1, h2⟩ => ⟨h1, [], List.Perm.refl _, List.Pairwise.nil, by rw [h2]; exact HO, by rw [h2]; exact Only.refl _ _⟩
  · have eg : ∀ args w, (callFunc 43 args).run Tryd.prog w = .ok (.enter 43 args) w := enters_of Tryd.func43 (by kernel_rfl) rfl
    have hcells := World.ownsRow.cells HO (g := g) rfl
    have hH : HoldsK encN 3 w g 0 ns.toArray := fun j hj => by
      rw [size_flatK] at hj
      have h1 := flatK_at ns (j := j) hj
      refine ⟨?_, by simp [World.frozen?, hg]⟩
      have := hcells j _ h1
      rw [add_lit] at this
      rw [Nat.zero_add]; exact this
    have hcmp : Go.Proofs.CmpLays Tryd.prog 43 #[] encN 3 cmpN g 0 ns.toArray.size w := fun _ _ _ _ x y => closureN x y _
    have hlen : ∀ (n : Nat) (W : World), n ≤ 12 → Calls Tryd.prog 50 #[.int .u64 n] W fun e w' => (∃ l : Int, e = .returned (.int .i64 l)) ∧ w' = W := fun n W h =>
      (sh_bits_Len n W (by omega) (by omega)).mono fun _ _ ⟨he, hw⟩ => ⟨⟨_, he⟩, hw⟩
    have hcon := Go.Proofs.AnyQ.slices_SortFunc_small_sorted sh_sortN 3 Tryd.isAgg48 Tryd.sizeOf48 encN (fun _ => rfl) nrow_one cmpN 43 #[] swoN g 0 cap ns.toArray w eg hcmp hH (Only.heap_lt hg) (by simpa using hl) hlen
    change Calls Tryd.prog 42 _ _ _ at hcon
    refine hcon.mono ?_
    rintro x w' ⟨rfl, d', n, os, hp, hso, rfl⟩
    have hsz : d'.size = ns.length := by simpa using hp.1
    have hper : d'.toList.Perm ns := by
      have h1 := hp.2.2
      rw [show ns.toArray.size = d'.size by rw [hsz]; simp] at h1
      rw [Array.extract_size] at h1
      rw [show d'.size = ns.toArray.size by rw [hsz]; simp, Array.extract_size] at h1
      simpa using h1
    refine ⟨rfl, d'.toList, hper, ?_, ?_, ?_⟩
    · rw [List.pairwise_iff_getElem]
      intro i j hi hj hij
      rw [Array.length_toList] at hi hj
      have := hso i j (Nat.zero_le _) hij (by rw [← hp.1]; exact hj)
      rw [ltN, getElem!_pos d' j hj, getElem!_pos d' i hi] at this
      simpa using this
    · have hlen' : d'.toList.length = ns.length := by rw [Array.length_toList, hsz]
      refine ⟨by rw [flatN_len], Or.inr ⟨g, cap, putCells id 0 (flatK encN 3 d') cur, by rw [hlen'], hb, ?_, by rw [hlen']; exact hn, hc, by simp [putCells, hs], ?_⟩⟩
      · have hlt := Only.heap_lt hg
        unfold Go.Proofs.sortWorldK putRowK
        rw [heap_grow_old _ _ (by simpa using hlt)]
        simp [putRow, mapBlock, Sort.ahead, Array.getElem?_modify, hg, onCells]
      · apply List.ext_getElem?
        intro j
        rw [hlen']
        by_cases hj : j < ns.length * 3
        · rw [List.getElem?_take_of_lt hj, Array.getElem?_toList]
          have hjc : j < cur.size := by rw [hs]; exact Nat.lt_of_lt_of_le hj (Nat.mul_le_mul_right 3 hn)
          have h2 := flatK_at d'.toList (j := j) (by rw [hlen']; exact hj)
          rw [h2]
          simp [putCells, hjc, hsz, hj]
        · rw [List.getElem?_take_eq_none (by omega), List.getElem?_eq_none (by rw [flatN_len, hlen']; omega)]
    · refine ⟨rfl, rfl, rfl, by simp [Go.Proofs.sortWorldK, putRowK], fun k hk hne => ?_⟩
      unfold Go.Proofs.sortWorldK putRowK
      rw [heap_grow_old _ _ (by simpa using hk)]
      have : g ≠ k := fun e => hne (by rw [e]; rfl)
      simp [putRow, mapBlock, Sort.ahead, Array.getElem?_modify, this]
end Go.Proofs.YtihcdecdkpbpmaaDoor.Walks
