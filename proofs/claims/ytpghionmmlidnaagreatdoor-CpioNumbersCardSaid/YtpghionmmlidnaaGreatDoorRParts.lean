/- Contract of the reference's parts. -/
import Derived.Test.YtpghionmmlidnaaGreatDoorWPath
namespace Go.Proofs.YtpghionmmlidnaaGreatDoor.Walks
open Go Go.RowKit Go.Proofs.YtpghionmmlidnaaGreatDoor.Aid Go.Proofs.YtpghionmmlidnaaGreatDoor.Pth Go.Proofs.YtpghionmmlidnaaGreatDoor.OwnS Go.Proofs.YtpghionmmlidnaaGreatDoorW.PrintWords

def glue (c : Str) : List Str → List Str
  | [] => [c]
  | p :: ps => (c ++ p) :: ps
/-- What stands ahead of the i-th round: the parts that are whole, and where the next one begins. -/
def Pin (l : Str) (i fr : Nat) (done : List Str) : Prop := (i ≤ l.length ∧ fr ≤ i ∧ partsL l = done ++ glue ((l.drop fr).take (i - fr)) (partsL (l.drop i))) ∨ (i = l.length + 1 ∧ done = partsL l)
theorem drop_at {α : Type} {l : List α} {i : Nat} {d : α} (h : i < l.length) : l.drop i = l.getD i d :: l.drop (i + 1) := by
  rw [List.getD_eq_getElem?_getD, List.getElem?_eq_getElem h]
  exact List.drop_eq_getElem_cons h
theorem getD_map {ls : List Str} {i : Nat} (h : i < ls.length) : (ls.map B).getD i ⟨#[]⟩ = B (ls.getD i []) := by
  rw [List.getD_eq_getElem?_getD, List.getD_eq_getElem?_getD, List.getElem?_map, List.getElem?_eq_getElem h]; rfl
theorem pin_start (l : Str) : Pin l 0 0 [] := Or.inl ⟨Nat.zero_le _, Nat.le_refl _, by
  cases h : partsL l with
  | nil => exact absurd h (partsL_ne l)
  | cons p ps => simp [glue, h]⟩
theorem glue_slash (c r : Str) : glue c (partsL (47 :: r)) = c :: partsL r := by rw [partsL_slash]; simp [glue]
theorem glue_other {x : UInt8} (c r : Str) (h : x ≠ 47) : glue c (partsL (x :: r)) = glue (c ++ [x]) (partsL r) := by
  obtain ⟨p, ps, e1, e2⟩ := partsL_cons (r := r) h
  rw [e1, e2]; simp [glue]
theorem pin_slash {l : Str} {i fr : Nat} {done : List Str} (h : Pin l i fr done) (hi : i < l.length) (hc : l.getD i 0 = 47) : Pin l (i + 1) (i + 1) (done ++ [(l.drop fr).take (i - fr)]) := by
  rcases h with ⟨_, _, h⟩ | ⟨h, _⟩
  · refine Or.inl ⟨hi, Nat.le_refl _, ?_⟩
    rw [drop_at (d := 0) hi, hc, glue_slash] at h
    rw [h, Nat.sub_self, List.take_zero, List.append_assoc]
    cases hr : partsL (l.drop (i + 1)) with
    | nil => exact absurd hr (partsL_ne _)
    | cons p ps => simp [glue]
  · omega
theorem pin_other {l : Str} {i fr : Nat} {done : List Str} (h : Pin l i fr done) (hi : i < l.length) (hc : l.getD i 0 ≠ 47) : Pin l (i + 1) fr done := by
  rcases h with ⟨_, hf, h⟩ | ⟨h, _⟩
  · refine Or.inl ⟨hi, by omega, ?_⟩
    rw [drop_at (d := 0) hi, glue_other _ _ hc] at h
    rw [h]
    congr 2
    rw [show i + 1 - fr = (i - fr) + 1 by omega, List.take_add_one, List.getElem?_drop, show fr + (i - fr) = i by omega, List.getElem?_eq_getElem hi, List.getD_eq_getElem?_getD, List.getElem?_eq_getElem hi]
    rfl
  · omega
theorem pin_end {l : Str} {fr : Nat} {done : List Str} (h : Pin l l.length fr done) : Pin l (l.length + 1) (l.length + 1) (done ++ [(l.drop fr).take (l.length - fr)]) := by
  rcases h with ⟨_, _, h⟩ | ⟨h, _⟩
  · refine Or.inr ⟨rfl, ?_⟩
    rw [h, List.drop_length]
    simp [partsL, glue]
  · omega
theorem pin_len {l : Str} {i fr : Nat} {done : List Str} (h : Pin l i fr done) : done.length ≤ l.length + 1 := by
  have hp : (partsL l).length ≤ l.length + 1 := by
    have := total_parts l
    have h : ∀ xs : List Str, xs.length ≤ total xs := fun xs => by
      induction xs with
      | nil => exact Nat.zero_le _
      | cons x xs ih => rw [total_cons, List.length_cons]; omega
    have := h (partsL l)
    omega
  rcases h with ⟨_, _, h⟩ | ⟨_, h⟩
  · rw [h, List.length_append] at hp; omega
  · rw [h]; exact hp
theorem index_at {S : ByteArray} {i : Nat} (hi : i < S.size) : ∀ h : i < S.size, ((S[i]'h).toNat : Int) = ((S.data.toList.getD i 0).toNat : Int) := fun h => by
  have e : S.data.toList.getD i 0 = S.data.toList[i]'hi := by rw [List.getD_eq_getElem?_getD, List.getElem?_eq_getElem hi]; rfl
  rw [e]; rfl
theorem extract_B (S : ByteArray) (a b : Nat) : S.extract a b = B ((S.data.toList.drop a).take (b - a)) := by
  have h : (S.extract a b).data.toList = (S.data.toList.drop a).take (b - a) := by
    rw [Lib.extract_data]
  rw [← h, data_B]
set_option maxHeartbeats 4000000 in
theorem rparts_any (S : ByteArray) (w : World) (hs : S.size ≤ 500000) : Calls Tryz.prog 98 #[.string S] w (ListPost (partsL S.data.toList) w) := by
  have HS := Lib.hid hs
  have eS : S.data.toList.length = S.size := rfl
  have HE := Lib.hid eS
  have b0 : (S.size : Int) ≤ 500000 := by omega
  clear hs eS
  go_enter Tryz.func98, Tryz.ntmps98
  go_wp2_with fail
  go_loopw [3, 4, 5] (fun v3 v4 v5 u => ∃ (i fr : Nat) (done : List Str), v4 = .int .i64 (fr : Int) ∧ v5 = .int .i64 (i : Int) ∧ fr ≤ i ∧ i ≤ S.size + 1 ∧ Hid (Pin S.data.toList i fr done) ∧ Hid (Own w.heap.size u v3 (done.map B)) ∧ Hid (Below w.heap.size w u)) (fun _ _ i _ => S.size + 1 - (intOf i).toNat)
  case atStart => exact ⟨0, 0, [], rfl, rfl, by omega, by omega, Lib.hid (pin_start _), Lib.hid (own_nil _ _), Lib.hid (Below.refl _ _)⟩
  case round =>
    obtain ⟨i, fr, done, rfl, rfl, hf, hi, HP, HO, HB⟩ := hrel
    have HL := Lib.hid (pin_len HP.out)
    rw [HE.out] at HL
    have HBs := HB.out.size
    by_cases c1 : i ≤ S.size
    · have d1 : decide ((i : Int) ≤ (S.size : Int)) = true := decide_eq_true (by omega)
      have d1' : decide (i ≤ S.size) = true := decide_eq_true c1
      have b1 : (i : Int) ≤ 500000 := by omega
      have q1 : (fr : Int) ≤ (i : Int) := by omega
      have q2 : (i : Int) ≤ (S.size : Int) := by omega
      have q3 : (0 : Int) ≤ (fr : Int) := by omega
      obtain ⟨P, hP⟩ : ∃ P, S.extract fr i = P := ⟨_, rfl⟩
      have HPc := Lib.hid (show P = B ((S.data.toList.drop fr).take (i - fr)) by rw [← hP, extract_B])
      by_cases c2 : i = S.size
      · subst c2
        have e2 : ((S.size : Int) == (S.size : Int)) = true := beq_self_eq_true _
        have HP2 := Lib.hid (pin_end (show Pin S.data.toList S.data.toList.length fr done from HP.out))
        rw [HE.out] at HP2
        go_wp2_with (first
          | (with_reducible refine gate 28 rfl ?_
             refine gate_guard (by rfl) ?_; dsimp only
             refine own_append (base := w.heap.size) (w0 := w) rfl (.tmp 22) (.tmp 27) rfl u3 _ [P] _ 1 1 rfl rfl rfl (own_only HO.out ((Only.refl _ wr).alloc _)) (one_at wr P) (HB.out.alloc HBs _) (by rw [alloc_size]; omega) (by have := HL.out; have := HS.out; rw [List.length_map]; simp only [List.length_cons, List.length_nil]; omega) ?_
             intro v5 w5 hO5 hB5 hs5))
        exact ⟨⟨S.size + 1, S.size + 1, _, by simp, by simp, by omega, by omega, HP2, Lib.hid (by rw [List.map_append, List.map_cons, List.map_nil, ← HPc.out]; exact hO5), Lib.hid hB5⟩, by simp [intOf]⟩
      · have hi2 : i < S.size := by omega
        have e2 : ((i : Int) == (S.size : Int)) = false := beq_eq_false_iff_ne.mpr (by omega)
        have e2' : (i == S.size) = false := beq_eq_false_iff_ne.mpr c2
        have q4 : (i : Int) < (S.size : Int) := by omega
        have hx := index_at hi2
        obtain ⟨x, hxx⟩ : ∃ x, S.data.toList.getD i 0 = x := ⟨_, rfl⟩
        rw [hxx] at hx
        by_cases h47 : x = 47
        · have e3 : ((x.toNat : Int) == 47) = true := by rw [h47]; rfl
          have HP2 := Lib.hid (pin_slash HP.out (by rw [HE.out]; exact hi2) (hxx.trans h47))
          clear h47 hxx
          go_wp2_with (first
          | (with_reducible refine gate 28 rfl ?_
             refine gate_guard (by rfl) ?_; dsimp only
             refine own_append (base := w.heap.size) (w0 := w) rfl (.tmp 22) (.tmp 27) rfl u3 _ [P] _ 1 1 rfl rfl rfl (own_only HO.out ((Only.refl _ wr).alloc _)) (one_at wr P) (HB.out.alloc HBs _) (by rw [alloc_size]; omega) (by have := HL.out; have := HS.out; rw [List.length_map]; simp only [List.length_cons, List.length_nil]; omega) ?_
             intro v5 w5 hO5 hB5 hs5))
          exact ⟨⟨i + 1, i + 1, _, by simp, by simp, by omega, by omega, HP2, Lib.hid (by rw [List.map_append, List.map_cons, List.map_nil, ← HPc.out]; exact hO5), Lib.hid hB5⟩, by simp [intOf]; omega⟩
        · have e3 : ((x.toNat : Int) == 47) = false := beq_eq_false_iff_ne.mpr (fun e => h47 (UInt8.toNat.inj (by exact_mod_cast e)))
          have HP2 := Lib.hid (pin_other HP.out (by rw [HE.out]; exact hi2) (by rw [hxx]; exact h47))
          clear h47 hxx
          go_wp2_with fail
          exact ⟨⟨i + 1, fr, done, by simp, by simp, by omega, by omega, HP2, HO, HB⟩, by simp [intOf]; omega⟩
    · have d1 : decide ((i : Int) ≤ (S.size : Int)) = false := decide_eq_false (by omega)
      have d1' : decide (i ≤ S.size) = false := decide_eq_false c1
      have HD := Lib.hid (show done = partsL S.data.toList by
        rcases HP.out with ⟨h, _⟩ | ⟨_, h⟩
        · rw [HE.out] at h; omega
        · exact h)
      have hO := HO.out
      rw [HD.out] at hO
      obtain ⟨A, c, rfl, hc, hR⟩ := own_rd hO
      rw [List.length_map] at hc ⊢
      have HR := Lib.hid hR
      have HC := Lib.hid hc
      clear hO HO hR hc
      go_wp2_with fail
      go_ret
      exact ⟨A, c, rfl, HC.out, HR.out, Only.of_below HB.out _⟩
end Go.Proofs.YtpghionmmlidnaaGreatDoor.Walks
