/- A copy of a text into a slice of the call's own; contract of fits; a header's bytes. -/
import Derived.Test.YtggjdfnkmhlliaaDoorRead
import Derived.StillTailTactics
namespace Go.Proofs.YtggjdfnkmhlliaaDoor.Walks
open Go Go.RowKit Go.Proofs.YtggjdfnkmhlliaaDoor.Aid Go.Proofs.YtggjdfnkmhlliaaDoor.Own Go.Proofs.YtggjdfnkmhlliaaDoorW.PrintWords

/-- s stands at a in l. -/
def putAt (l : Str) (a : Nat) (s : Str) : Str := l.take a ++ s ++ l.drop (a + s.length)
theorem putAt_len {l : Str} {a : Nat} {s : Str} (h : a + s.length ≤ l.length) : (putAt l a s).length = l.length := by
  unfold putAt
  rw [List.length_append, List.length_append, List.length_take, List.length_drop]
  omega
theorem putAt_get {l : Str} {a : Nat} {s : Str} (h : a + s.length ≤ l.length) (j : Nat) : (putAt l a s).getD j 0 = if a ≤ j ∧ j < a + s.length then s.getD (j - a) 0 else l.getD j 0 := by
  unfold putAt
  have h1 : (l.take a).length = a := by rw [List.length_take]; omega
  simp only [List.getD_eq_getElem?_getD]
  by_cases c1 : j < a
  · rw [if_neg (by omega), List.append_assoc, List.getElem?_append_left (by omega), List.getElem?_take, if_pos c1]
  · by_cases c2 : j < a + s.length
    · rw [if_pos ⟨by omega, c2⟩, List.append_assoc, List.getElem?_append_right (by omega), h1, List.getElem?_append_left (by omega)]
    · rw [if_neg (by omega), List.getElem?_append_right (by rw [List.length_append]; omega), List.length_append, h1, List.getElem?_drop]
      congr 2; omega
def setAll (l : List Int) (i : Nat) : List Int → List Int
  | [] => l
  | x :: r => setAll (l.set i x) (i + 1) r
theorem setAll_eq (xs : List Int) : ∀ (l : List Int) (i : Nat), i + xs.length ≤ l.length → setAll l i xs = l.take i ++ xs ++ l.drop (i + xs.length) := by
  induction xs with
  | nil => intro l i _; simp [setAll]
  | cons x r ih =>
    intro l i h
    rw [List.length_cons] at h
    rw [setAll, ih _ _ (by rw [List.length_set]; omega)]
    have e1 : (l.set i x).take (i + 1) = l.take i ++ [x] := by
      rw [List.take_set, List.take_add_one, List.getElem?_eq_getElem (by omega)]
      have h2 : (l.take i).length = i := by rw [List.length_take]; omega
      rw [List.set_append_right _ _ (by omega), h2, Nat.sub_self]; rfl
    have e2 : (l.set i x).drop (i + 1 + r.length) = l.drop (i + (x :: r).length) := by
      rw [List.drop_set_of_lt (by omega), List.length_cons]; congr 1; omega
    rw [e1, e2]; simp
theorem ints_putAt (l : Str) (a : Nat) (s : Str) : ints (putAt l a s) = (ints l).take a ++ ints s ++ (ints l).drop (a + s.length) := by
  unfold putAt ints
  rw [List.map_append, List.map_append, List.map_take, List.map_drop]
theorem own_setAll {base g n cap : Nat} : ∀ (xs : List Int) (i : Nat) (w : World) (l : List Int), Own base w (.slice (some ⟨g, 0, none⟩) n cap) l → Own base (w.setCells g i (xs.map (Value.int .u8))) (.slice (some ⟨g, 0, none⟩) n cap) (setAll l i xs)
  | [], _, _, _, h => h
  | x :: r, i, _, _, h => own_setAll r (i + 1) _ _ (Own.putn h i x)
theorem only_setCells (g : Nat) : ∀ (vs : List Value) (i : Nat) (w : World), Only (fun k => k = g) w (w.setCells g i vs)
  | [], _, w => Only.refl _ w
  | v :: r, i, w => ((Only.refl (fun k => k = g) w).setCell (p := ⟨g, i, none⟩) (Or.inl rfl) v).trans (only_setCells g r (i + 1) _) (fun _ hk => Or.inl hk)
theorem set_putAt {l : Str} {a : Nat} {y : UInt8} (h : a < l.length) : (ints l).set a (y.toNat : Int) = ints (putAt l a [y]) := by
  have := setAll_eq [(y.toNat : Int)] (ints l) a (by rw [ints_len]; exact h)
  rw [ints_putAt]
  exact this
theorem own_capn {base : Nat} {w : World} {A : Option Addr} {n cap : Nat} {l : List Int} (h : Own base w (.slice A n cap) l) : l.length = n ∧ n ≤ cap := by
  obtain ⟨A', c, e, hc, _⟩ := Kd.R_reads h
  injection e with e1 e2 e3
  subst e2 e3
  exact ⟨rfl, hc⟩
section
variable {ops : Array Oper} {rest : List Oper} {o : Oper} {a : Act} {Q : Exit → Act → World → Prop}
theorem copy_put {W : World} {base : Nat} (hgd : o.guard = none) (d x : Operand) (ho : o.op = .call { callee := .builtin .copy, args := #[d, x], argTypes := #[22, 9] })
    {g off n cap dLen dCap : Nat} (hd : a.eval d = .slice (some ⟨g, off, none⟩) dLen dCap) (s : Str) (hx : a.eval x = .string (B s)) (hle : s.length ≤ dLen) {l : Str} (hn : l.length = n) (HO : Own base W (.slice (some ⟨g, 0, none⟩) n cap) (ints l))
    (hoff : off + s.length ≤ n)
    (h : ∀ w1, Own base w1 (.slice (some ⟨g, 0, none⟩) n cap) (ints (putAt l off s)) → Only (fun k => k = g) W w1 → wpList Tryd.prog ops Q rest (a.put o.dst (goInt s.length)) w1) : wpList Tryd.prog ops Q (o :: rest) a W := by
  obtain ⟨i, hi, hi1, _, _⟩ := info5'
  have hz : ∀ w, (Go.sizeOf 5).run Tryd.prog w = .ok 1 w := fun w => by simp [Go.sizeOf, typeInfo, hi, hi1]
  have hs : (B s).size = s.length := B_size s
  have hrun := run_copy_string (P := Tryd.prog) W 22 9 o.type 5 g off dLen dCap (B s) Tryd.underlying22 hz (by omega)
    (fun j hj => by rw [Own.cell HO (j := off + j) (by rw [ints_len]; omega)]; rfl) (fun j hj => Own.frozen HO (j := off + j) (by omega))
  have h3 := own_setAll (ints s) off W _ HO
  rw [setAll_eq _ _ _ (by rw [ints_len, ints_len]; omega), ints_len, ← ints_putAt] at h3
  refine wpList_plain hgd fun K hK => ?_
  unfold Oper.wp execOp
  simp only [ho, resolve, invoke, builtin, Sem.run_bind, Sem.run_pure, Result.andThen_ok, List.map_toArray, List.map_cons, List.map_nil, hd, hx, hrun]
  rw [hs]
  refine hK _ _ (h _ ?_ (only_setCells g _ _ _))
  rw [B_data]
  have e : (ints s).map (Value.int .u8) = s.map (fun x => Value.int .u8 (x.toNat : Int)) := by unfold ints; rw [List.map_map]; rfl
  rw [e] at h3
  exact h3
end
def noZ (l : Str) : Bool := l.all isTx
def fitB (l : Str) (n : Nat) : Bool := decide (l.length ≤ n) && noZ l
theorem index_noZ (l : Str) : decide (Lib.indexByte l 0 < 0) = noZ l := by
  induction l with
  | nil => rfl
  | cons x r ih =>
    have hg := Lib.indexByte_ge r 0
    rw [Lib.indexByte]
    unfold noZ at ih ⊢
    rw [List.all_cons, ← ih]
    by_cases c : x = 0
    · subst c; rfl
    · rw [if_neg (by simpa using c), show isTx x = true from decide_eq_true c, Bool.true_and]
      by_cases e : Lib.indexByte r 0 = -1
      · rw [e]; rfl
      · rw [if_neg (by simpa using e), decide_eq_false (by omega), decide_eq_false (by omega)]
set_option maxHeartbeats 800000 in
theorem fits_any (l : Str) (n : Nat) (w : World) (hl : l.length ≤ 1000000) : Calls Tryd.prog 30 #[.string (B l), .int .i64 (n : Int)] w fun x w' => x = .returned (.bool (fitB l n)) ∧ w = w' := by
  have HI := Lib.hid (sh_strings_IndexByte (B l) 0 w)
  have HN := Lib.hid (index_noZ l)
  rw [B_data] at HI
  obtain ⟨S, hS⟩ : ∃ S, B l = S := ⟨_, rfl⟩
  have hz : S.size = l.length := by rw [← hS, B_size]
  rw [hS] at HI ⊢
  by_cases c1 : l.length ≤ n
  · have d1 : decide (S.size ≤ n) = true := decide_eq_true (by omega)
    have HF := Lib.hid (show fitB l n = noZ l by unfold fitB; rw [decide_eq_true c1, Bool.true_and])
    have b1 : S.size ≤ 1000000 := by omega
    obtain ⟨ix, hix⟩ : ∃ ix, Lib.indexByte l 0 = ix := ⟨_, rfl⟩
    have hi0 : (-1 : Int) ≤ ix := by rw [← hix]; exact Lib.indexByte_ge l 0
    replace HI := Lib.hid (show Calls Tryd.prog 41 #[.string S, .int .u8 0] w fun x w' => x = .returned (.int .i64 ix) ∧ w = w' from HI.out.mono (by rintro x w' ⟨rfl, rfl⟩; exact ⟨by rw [← hix]; rfl, rfl⟩))
    rw [hix] at HN
    clear hS hz c1 hix hl
    go_enter Tryd.func30, Tryd.ntmps30
    go_wp2_with (go_at_call 41; refine HI.out.mono ?_; rintro x w1 ⟨rfl, rfl⟩)
    go_ret
    exact ⟨by rw [HF.out, ← HN.out]; rfl, rfl⟩
  · have d1 : decide (S.size ≤ n) = false := decide_eq_false (by omega)
    have HF := Lib.hid (show fitB l n = false by unfold fitB; rw [decide_eq_false c1, Bool.false_and])
    have b1 : S.size ≤ 1000000 := by omega
    clear hS hz c1 hl
    go_enter Tryd.func30, Tryd.ntmps30
    go_wp2_with fail
    go_ret
    exact ⟨by rw [HF.out]; rfl, rfl⟩
end Go.Proofs.YtggjdfnkmhlliaaDoor.Walks
