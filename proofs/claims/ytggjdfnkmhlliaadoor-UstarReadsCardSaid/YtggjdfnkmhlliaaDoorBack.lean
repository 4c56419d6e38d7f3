/- Plain laws on a header's bytes: what is put is read back; no condition beyond those that each lemma names. -/
import Derived.Test.YtggjdfnkmhlliaaDoorRPut9
namespace Go.Proofs.YtggjdfnkmhlliaaDoor.Walks
open Go Go.RowKit Go.Proofs.YtggjdfnkmhlliaaDoor.Aid Go.Proofs.YtggjdfnkmhlliaaDoor.Own Go.Proofs.YtggjdfnkmhlliaaDoorW.PrintWords

theorem low_oc (j x : Nat) : ∀ y ∈ low 8 48 j x, isOc y = true ∧ isSp y = false ∧ y.toNat < 128 := by
  induction j with
  | zero => intro y hy; exact absurd hy (List.not_mem_nil)
  | succ j ih =>
    intro y hy
    rw [low] at hy
    rcases List.mem_cons.1 hy with rfl | hy
    · have h := Nat.mod_lt (x / 8 ^ j) (show 0 < 8 by decide)
      have e : (UInt8.ofNat (48 + x / 8 ^ j % 8)).toNat = 48 + x / 8 ^ j % 8 := toNat_of (by omega)
      refine ⟨decide_eq_true (by omega), decide_eq_false (fun e2 => ?_), by omega⟩
      rw [e2] at e
      have : (32 : UInt8).toNat = 32 := rfl
      omega
    · exact ih y hy
theorem takeWhile_all {p : UInt8 → Bool} {l r : Str} (h : ∀ y ∈ l, p y = true) : (l ++ r).takeWhile p = l ++ r.takeWhile p := by
  induction l with
  | nil => rfl
  | cons x l ih =>
    rw [List.cons_append, List.takeWhile_cons_of_pos (h x List.mem_cons_self), ih (fun y hy => h y (List.mem_cons_of_mem _ hy))]; rfl
theorem dropWhile_all {p : UInt8 → Bool} {l r : Str} (h : ∀ y ∈ l, p y = true) : (l ++ r).dropWhile p = r.dropWhile p := by
  induction l with
  | nil => rfl
  | cons x l ih =>
    rw [List.cons_append, List.dropWhile_cons_of_pos (h x List.mem_cons_self), ih (fun y hy => h y (List.mem_cons_of_mem _ hy))]
theorem oct_low_end {m x : Nat} {r : Str} (hm : 0 < m) (hx : x < 8 ^ m) (hM : x ≤ MOST) (hr : r.takeWhile isOc = [] ∧ (r.dropWhile isOc).all isEnd = true) : octL (low 8 48 m x ++ r) = ((x : Int), 0) := by
  obtain ⟨j, rfl⟩ : ∃ j, m = j + 1 := ⟨m - 1, by omega⟩
  have h0 := low_oc (j + 1) x
  have hd : low 8 48 (j + 1) x ++ r = UInt8.ofNat (48 + x / 8 ^ j % 8) :: (low 8 48 j x ++ r) := rfl
  obtain ⟨h1, h2, h3⟩ := h0 (UInt8.ofNat (48 + x / 8 ^ j % 8)) (by rw [low]; exact List.mem_cons_self)
  have e1 : (low 8 48 (j + 1) x ++ r).dropWhile isSp = low 8 48 (j + 1) x ++ r := by
    rw [hd, List.dropWhile_cons_of_neg (by rw [h2]; exact Bool.false_ne_true)]
  have e2 := takeWhile_all (r := r) (fun y hy => (h0 y hy).1)
  have e3 := dropWhile_all (r := r) (fun y hy => (h0 y hy).1)
  have e4 : octL (low 8 48 (j + 1) x ++ r) = if (((low 8 48 (j + 1) x ++ r).dropWhile isSp).dropWhile isOc).all isEnd then ranged (numB 8 48 (((low 8 48 (j + 1) x ++ r).dropWhile isSp).takeWhile isOc)) else (0, 2) := by
    rw [hd]; exact oct_low (by omega)
  rw [e4, e1, e3, hr.2, if_pos rfl, e2, hr.1, List.append_nil, numB_low (by decide) (by decide), Nat.mod_eq_of_lt hx]
  unfold ranged
  rw [if_pos hM]
theorem oct_put {v : Int} {n : Nat} (h : (putOct v n).2 = 0) : octL (putOct v n).1 = (v, 0) := by
  unfold putOct at h ⊢
  split at h
  · exact absurd h (by decide)
  split at h
  · exact absurd h (by decide)
  rename_i c1 c2
  rw [if_neg c1, if_neg c2]
  have hn : (n : Int).toNat - 1 = n - 1 := by omega
  have hv : ((v.toNat : Nat) : Int) = v := by omega
  have hM : v.toNat ≤ MOST := by unfold MOST; omega
  rw [hn] at h ⊢
  split at h
  · rename_i c3
    rw [if_pos c3]
    have hx : v.toNat < 8 ^ (n - 1) := by
      rcases Nat.div_eq_zero_iff.1 c3 with h9 | h9
      · have := Nat.pow_pos (n := n - 1) (show 0 < 8 by decide); omega
      · exact h9
    show octL (low 8 48 (n - 1) v.toNat ++ [0]) = (v, 0)
    rw [oct_low_end (by omega) hx hM ⟨rfl, rfl⟩, hv]
  split at h
  · rename_i c3 c4
    rw [if_neg c3, if_pos c4]
    have hx : v.toNat < 256 ^ (n - 1) := by
      rcases Nat.div_eq_zero_iff.1 c4 with h9 | h9
      · have := Nat.pow_pos (n := n - 1) (show 0 < 256 by decide); omega
      · exact h9
    show octL (128 :: low 256 0 (n - 1) v.toNat) = (v, 0)
    have e : octL (128 :: low 256 0 (n - 1) v.toNat) = ranged (numB 256 0 (low 256 0 (n - 1) v.toNat)) := rfl
    rw [e, numB_low (by decide) (by decide), Nat.mod_eq_of_lt hx]
    unfold ranged
    rw [if_pos hM, hv]
  · exact absurd h (by decide)
theorem oct_sum {z : Int} (h0 : 0 ≤ z) (h1 : z ≤ 130560) : octL ((putOct z 7).1 ++ [32]) = (z, 0) := by
  unfold putOct
  rw [if_neg (by omega), if_neg (by omega)]
  have e : z.toNat / 8 ^ ((7 : Int).toNat - 1) = 0 := Nat.div_eq_of_lt (by show z.toNat < 262144; omega)
  rw [if_pos e]
  show octL ((low 8 48 6 z.toNat ++ [0]) ++ [32]) = (z, 0)
  rw [List.append_assoc, oct_low_end (by decide) (by show z.toNat < 262144; omega) (by unfold MOST; omega) ⟨rfl, rfl⟩]
  exact Prod.ext (by show ((z.toNat : Nat) : Int) = z; omega) rfl
/-- Pieces, each at its place. -/
def putAll (l : Str) : List (Nat × Str) → Str
  | [] => l
  | p :: r => putAll (putAt l p.1 p.2) r
def Fit (n : Nat) (ps : List (Nat × Str)) : Prop := ∀ p ∈ ps, p.1 + p.2.length ≤ n
theorem Fit.tail {n : Nat} {p : Nat × Str} {ps : List (Nat × Str)} (h : Fit n (p :: ps)) : Fit n ps := fun q hq => h q (List.mem_cons_of_mem _ hq)
theorem putAll_len {ps : List (Nat × Str)} : ∀ {l : Str}, Fit l.length ps → (putAll l ps).length = l.length := by
  induction ps with
  | nil => intro l _; rfl
  | cons p r ih =>
    intro l h
    have e := putAt_len (h p List.mem_cons_self)
    rw [putAll, ih (by rw [e]; exact h.tail), e]
theorem putAll_out {ps : List (Nat × Str)} {j : Nat} : ∀ {l : Str}, Fit l.length ps → (∀ p ∈ ps, j < p.1 ∨ p.1 + p.2.length ≤ j) → (putAll l ps).getD j 0 = l.getD j 0 := by
  induction ps with
  | nil => intro l _ _; rfl
  | cons p r ih =>
    intro l h ho
    have e := putAt_len (h p List.mem_cons_self)
    rw [putAll, ih (by rw [e]; exact h.tail) (fun q hq => ho q (List.mem_cons_of_mem _ hq)), putAt_get (h p List.mem_cons_self), if_neg (by have := ho p List.mem_cons_self; omega)]
theorem putAll_app (l : Str) (ps qs : List (Nat × Str)) : putAll l (ps ++ qs) = putAll (putAll l ps) qs := by
  induction ps generalizing l with
  | nil => rfl
  | cons p r ih => rw [List.cons_append, putAll, putAll, ih]
/-- A field in which one piece alone stands. -/
theorem sub_piece {ps qs : List (Nat × Str)} {A N m : Nat} {s : Str} (hm : A + N ≤ m) (hf : Fit m (ps ++ (A, s) :: qs)) (hs : s.length ≤ N) (hp : ∀ p ∈ ps, p.1 + p.2.length ≤ A ∨ A + N ≤ p.1) (hq : ∀ p ∈ qs, p.1 + p.2.length ≤ A ∨ A + N ≤ p.1) :
    sub (putAll (List.replicate m 0) (ps ++ (A, s) :: qs)) A N = s ++ List.replicate (N - s.length) 0 := by
  have hz : (List.replicate m (0 : UInt8)).length = m := List.length_replicate
  have h1 : Fit m ps := fun p hp => hf p (List.mem_append_left _ hp)
  have h2 : Fit m qs := fun p hp => hf p (List.mem_append_right _ (List.mem_cons_of_mem _ hp))
  have h3 : (putAll (List.replicate m 0) ps).length = m := by rw [putAll_len (by rw [hz]; exact h1), hz]
  have h4 : (putAt (putAll (List.replicate m 0) ps) A s).length = m := by rw [putAt_len (by omega), h3]
  have h5 : (putAll (List.replicate m 0) (ps ++ (A, s) :: qs)).length = m := by rw [putAll_len (by rw [hz]; exact hf), hz]
  refine ext_getD (by rw [sub_len (by omega), List.length_append, List.length_replicate]; omega) (fun j hj => ?_)
  rw [sub_len (by omega)] at hj
  rw [sub_get hj, putAll_app, putAll, putAll_out (by rw [h4]; exact h2) (fun p hp => by have := hq p hp; omega), putAt_get (by rw [h3]; show A + s.length ≤ m; omega)]
  show (if A ≤ A + j ∧ A + j < A + s.length then s.getD (A + j - A) 0 else _) = _
  by_cases c : j < s.length
  · rw [if_pos (by omega), Nat.add_sub_cancel_left, List.getD_eq_getElem?_getD, List.getD_eq_getElem?_getD, List.getElem?_append_left c]
  · rw [if_neg (by omega), putAll_out (by rw [hz]; exact h1) (fun p hp' => by have := hp p hp'; omega)]
    simp only [List.getD_eq_getElem?_getD]
    rw [List.getElem?_append_right (by omega)]
    simp only [List.getElem?_replicate]
    split <;> split <;> rfl
theorem upTo0_pad {s : Str} (k : Nat) (hz : noZ s = true) : upTo0 (s ++ List.replicate k 0) = s := by
  unfold upTo0
  have h : ∀ y ∈ s, isTx y = true := fun y hy => by
    unfold noZ at hz
    exact List.all_eq_true.1 hz y hy
  rw [takeWhile_all h]
  cases k with
  | zero => simp
  | succ k => rw [List.replicate_succ, List.takeWhile_cons_of_neg (by decide), List.append_nil]
theorem pad_full {s : Str} {N : Nat} (h : s.length = N) : s ++ List.replicate (N - s.length) 0 = s := by rw [h, Nat.sub_self]; simp
/-- The pieces of a header. -/
def pieces (H : Hdr) (z : Str) : List (Nat × Str) := [(0, H.name), (157, H.target), (257, magic), (265, H.user), (297, H.group), (345, H.pre), (156, [H.type]), (100, (putOct H.mode 8).1), (108, (putOct H.uid 8).1), (116, (putOct H.gid 8).1), (124, (putOct H.size 12).1), (136, (putOct H.time 12).1), (329, (putOct 0 8).1), (337, (putOct 0 8).1), (148, z)]
theorem bodyP_pieces (H : Hdr) : bodyP H = putAll (List.replicate 512 0) (pieces H ((putOct (sumOf (octTo H 7)) 7).1 ++ [32])) := by
  unfold bodyP pieces putAll
  simp only [octTo, body0, putAll]
  rfl
end Go.Proofs.YtggjdfnkmhlliaaDoor.Walks
