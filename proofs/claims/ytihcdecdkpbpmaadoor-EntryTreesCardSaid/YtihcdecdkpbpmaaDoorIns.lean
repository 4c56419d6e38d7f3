/- The reference's way to a tree's names: nodes are put in one by one, rising. Plain. -/
import Derived.Test.YtihcdecdkpbpmaaDoorNdS
namespace Go.Proofs.YtihcdecdkpbpmaaDoor.Walks
open Go Go.Proofs.YtihcdecdkpbpmaaDoor.Aid Go.Proofs.YtihcdecdkpbpmaaDoor.Pth

def newN (q : Str) : Nd := ⟨q, -1, none, 0, 0⟩
def spotD (q : Str) (ns : List Nd) : Nat := spotN q (ns.map (·.name))
def insNd (q : Str) (ns : List Nd) : List Nd := ns.take (spotD q ns) ++ [newN q] ++ ns.drop (spotD q ns)
def withEnt (N : Nd) (e : Int) : Nd := { N with ent := e }
def Fresh (P : List (List Str)) (f : List Str) (N : Nd) : Prop := N.ent = entN P (f ++ [N.name]) ∧ N.A = none ∧ N.n = 0 ∧ N.c = 0
/-- What the nodes are behind some of the paths. -/
def Sofar (P : List (List Str)) (f : List Str) (ns : List Nd) : Prop := ns.map (·.name) = kidN P f ∧ ∀ N ∈ ns, Fresh P f N
theorem sofar_nil (f : List Str) : Sofar [] f [] := ⟨rfl, fun N h => by cases h⟩
theorem ent_other {P : List (List Str)} {p f : List Str} {n : Str} (h : under f p ≠ some n) : entN (P ++ [p]) (f ++ [n]) = entN P (f ++ [n]) := by
  rw [entN_snoc, if_neg (fun e => h (under_some.2 (by rw [e]; exact List.prefix_refl _)))]
theorem sofar_skip {P : List (List Str)} {p f : List Str} {ns : List Nd} (h : Sofar P f ns) (hu : under f p = none) : Sofar (P ++ [p]) f ns := by
  refine ⟨by rw [kidN_snoc, hu]; exact h.1, fun N hN => ?_⟩
  obtain ⟨h1, h2⟩ := h.2 N hN
  exact ⟨by rw [ent_other (by rw [hu]; exact fun e => by cases e)]; exact h1, h2⟩
theorem name_at {ns : List Nd} {k : Nat} {N : Nd} (h : ns[k]? = some N) : (ns.map (·.name))[k]? = some N.name := by rw [List.getElem?_map, h]; rfl
theorem sofar_put {P : List (List Str)} {p f : List Str} {q : Str} {ns : List Nd} {s : Nat} {N : Nd} (hu : under f p = some q) (hn : ns.map (·.name) = kidN (P ++ [p]) f) (he : ∀ M ∈ ns, Fresh P f M) (hs : ns[s]? = some N) (hq : N.name = q) :
    Sofar (P ++ [p]) f (if p = f ++ [q] then ns.set s (withEnt N P.length) else ns) := by
  have hnd : (ns.map (·.name)).Nodup := by rw [hn]; exact rising_nodup (rising_kidN _ _)
  split
  · rename_i e
    refine ⟨?_, fun M hM => ?_⟩
    · rw [← hn]
      apply List.ext_getElem?
      intro j
      rw [List.getElem?_map, List.getElem?_map, List.getElem?_set]
      split
      · rename_i ej
        subst ej
        have hlt := (List.getElem?_eq_some_iff.1 hs).1
        rw [if_pos hlt, hs]
        rfl
      · rfl
    · obtain ⟨j, hj⟩ := List.mem_iff_getElem?.1 hM
      rw [List.getElem?_set] at hj
      split at hj
      · rename_i ej
        split at hj
        · have eM := Option.some.inj hj
          obtain ⟨g1, g2⟩ := he N (List.mem_of_getElem? hs)
          rw [← eM]
          exact ⟨by show (P.length : Int) = entN (P ++ [p]) (f ++ [N.name]); rw [hq, entN_snoc, if_pos e], g2⟩
        · cases hj
      · rename_i ej
        obtain ⟨g1, g2⟩ := he M (List.mem_of_getElem? hj)
        refine ⟨?_, g2⟩
        rw [ent_other (n := M.name)]
        · exact g1
        · rw [hu]
          intro e2
          have e3 : M.name = q := (Option.some.inj e2).symm
          have h1 := name_at hj
          have h2 := name_at hs
          rw [e3] at h1
          rw [hq] at h2
          have hlt : s < (ns.map (·.name)).length := by rw [List.length_map]; exact (List.getElem?_eq_some_iff.1 hs).1
          exact ej ((List.getElem?_inj hlt hnd).1 (h2.trans h1.symm))
  · rename_i e
    refine ⟨hn, fun M hM => ?_⟩
    obtain ⟨g1, g2⟩ := he M hM
    refine ⟨?_, g2⟩
    rw [entN_snoc, if_neg]
    · exact g1
    · intro e2
      have h3 := under_some.2 (show f ++ [M.name] <+: p by rw [e2]; exact List.prefix_refl _)
      rw [hu] at h3
      exact e (by rw [e2, Option.some.inj h3])
theorem sofar_have {P : List (List Str)} {p f : List Str} {q : Str} {ns : List Nd} {N : Nd} (h : Sofar P f ns) (hu : under f p = some q) (hs : ns[spotD q ns]? = some N) (hq : N.name = q) :
    Sofar (P ++ [p]) f (if p = f ++ [q] then ns.set (spotD q ns) (withEnt N P.length) else ns) := by
  refine sofar_put hu ?_ h.2 hs hq
  have h1 := name_at hs
  rw [hq] at h1
  unfold spotD at h1
  rw [kidN_snoc, hu]
  show _ = insN q (kidN P f)
  rw [← h.1, insN_spot, if_pos h1]
theorem not_kid {l : List Str} {q : Str} (hr : Rising l) (h : l[spotN q l]? ≠ some q) : q ∉ l := fun hm => by
  obtain ⟨j, hj⟩ := List.mem_iff_getElem?.1 hm
  have e : spotN q l = j := spot_uniq (fun k hk => by
    obtain ⟨hjl, hjv⟩ := List.getElem?_eq_some_iff.1 hj
    have hkl : k < l.length := by omega
    refine ⟨l[k], List.getElem?_eq_getElem hkl, ?_⟩
    have := List.pairwise_iff_getElem.1 hr k j hkl hjl hk
    rwa [hjv] at this) (fun m hm => by
      rw [hj] at hm
      rw [← Option.some.inj hm]
      exact bl_irrefl q)
  rw [e] at h
  exact h hj
theorem insNd_at (q : Str) (ns : List Nd) : (insNd q ns)[spotD q ns]? = some (newN q) := by
  have hle : spotD q ns ≤ ns.length := by have := spot_le q (ns.map (·.name)); rw [List.length_map] at this; exact this
  unfold insNd
  rw [List.append_assoc, List.getElem?_append_right (by rw [List.length_take]; omega), List.length_take, Nat.min_eq_left hle, Nat.sub_self]
  rfl
theorem sofar_new {P : List (List Str)} {p f : List Str} {q : Str} {ns : List Nd} (h : Sofar P f ns) (hu : under f p = some q) (hs : ∀ N, ns[spotD q ns]? = some N → N.name ≠ q) :
    Sofar (P ++ [p]) f (if p = f ++ [q] then (insNd q ns).set (spotD q ns) (withEnt (newN q) P.length) else insNd q ns) := by
  have h1 : (ns.map (·.name))[spotN q (ns.map (·.name))]? ≠ some q := by
    rw [List.getElem?_map]
    cases e : ns[spotN q (ns.map (·.name))]? with
    | none => exact fun e2 => by cases e2
    | some N => exact fun e2 => hs N e (Option.some.inj e2)
  refine sofar_put hu ?_ ?_ (insNd_at q ns) rfl
  · rw [kidN_snoc, hu]
    show _ = insN q (kidN P f)
    rw [← h.1, insN_spot, if_neg h1]
    unfold insNd spotD
    rw [List.map_append, List.map_append, List.map_take, List.map_drop, List.append_assoc]
    rfl
  · intro M hM
    have hk : q ∉ kidN P f := by rw [← h.1]; exact not_kid (by rw [h.1]; exact rising_kidN _ _) h1
    unfold insNd at hM
    rcases List.mem_append.1 hM with hM | hM
    · rcases List.mem_append.1 hM with hM | hM
      · exact h.2 M (List.mem_of_mem_take hM)
      · rw [List.mem_singleton.1 hM]
        refine ⟨?_, rfl, rfl, rfl⟩
        show (-1 : Int) = entN P (f ++ [q])
        have h2 := (entN_bd P (f ++ [q])).1
        have h3 : ¬ 0 ≤ entN P (f ++ [q]) := fun h0 => hk (mem_kidN.2 ⟨_, entN_mem.1 h0, List.prefix_refl _⟩)
        omega
    · exact h.2 M (List.mem_of_mem_drop hM)
theorem under_short {f p : List Str} (h : p.length ≤ f.length) : under f p = none := by
  unfold under
  split
  · exact List.getElem?_eq_none h
  · rfl
theorem under_not {f p : List Str} (h : p.take f.length ≠ f) : under f p = none := by unfold under; rw [if_neg h]
theorem under_at {f p : List Str} {q : Str} (h : p.take f.length = f) (hq : p[f.length]? = some q) : under f p = some q := by unfold under; rw [if_pos h]; exact hq
theorem front_full {f p : List Str} {q : Str} (h1 : p.take f.length = f) (h2 : p[f.length]? = some q) : p = f ++ [q] ↔ p.length = f.length + 1 := by
  constructor
  · intro e
    rw [e, List.length_append]; rfl
  · intro e
    have h3 : p.take (f.length + 1) = p := List.take_of_length_le (by omega)
    rw [← h3, List.take_add_one, h1, h2]
    rfl
theorem front_step {f p : List Str} {k : Nat} (h1 : k < p.length) (h2 : k < f.length) : decide (p.take (k + 1) = f.take (k + 1)) = (decide (p.take k = f.take k) && decide (p.getD k [] = f.getD k [])) := by
  rw [List.take_add_one, List.take_add_one, List.getElem?_eq_getElem h1, List.getElem?_eq_getElem h2]
  rw [List.getD_eq_getElem?_getD, List.getD_eq_getElem?_getD, List.getElem?_eq_getElem h1, List.getElem?_eq_getElem h2]
  have hl : (p.take k).length = (f.take k).length := by rw [List.length_take, List.length_take]; omega
  rw [← Bool.decide_and]
  apply decide_eq_decide.2
  constructor
  · intro h
    obtain ⟨h3, h4⟩ := List.append_inj h hl
    exact ⟨h3, by simpa using h4⟩
  · rintro ⟨h3, h4⟩
    rw [h3]
    simp only [Option.getD_some] at h4
    simp [h4]
end Go.Proofs.YtihcdecdkpbpmaaDoor.Walks
