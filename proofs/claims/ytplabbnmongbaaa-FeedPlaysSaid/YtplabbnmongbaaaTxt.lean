/- The document's text of what was pushed, cut: as a number, as bytes. -/
import Derived.Test.YtplabbnmongbaaaByt
namespace Go.Proofs.Ytplabbnmongbaaa.Walks
open Go Go.RowKit Go.Proofs.Ytplabbnmongbaaa.Aid Go.Proofs.Ytplabbnmongbaaa.Own Go.Proofs.YtplabbnmongbaaaW.PrintWords

/-- All that is known between two ops: what was pushed, how far it was used, whether it has ended; S is the document's text of it. -/
structure Play (g : Nat) (w : World) (n : Nat) (S : ByteArray) (k : Nat) (e : Bool) (P : List Int) (L : Nat) (u : World) : Prop where
  txt : S = strOfNums (chars P)
  len : P.length = L
  most : L ≤ 20 * n
  feed : FeedAt u g P k e
  below : Below w.heap.size w u
theorem Play.size {g : Nat} {w : World} {n : Nat} {S : ByteArray} {k : Nat} {e : Bool} {P : List Int} {L : Nat} {u : World} (h : Play g w n S k e P L u) : S.size = 8 * L := by rw [h.txt, strOfNums_size, chars_length, h.len]
theorem Play.le {g : Nat} {w : World} {n : Nat} {S : ByteArray} {k : Nat} {e : Bool} {P : List Int} {L : Nat} {u : World} (h : Play g w n S k e P L u) : k ≤ 8 * L := by have := h.feed.le; rw [h.len] at this; exact this
theorem Play.first (g : Nat) (w u : World) (hf : FeedAt u g [] 0 false) (hb : Below w.heap.size w u) : Play g w 0 ⟨#[]⟩ 0 false [] 0 u := ⟨rfl, rfl, Nat.le_refl _, hf, hb⟩
theorem Play.next {g : Nat} {w : World} {n : Nat} {S : ByteArray} {k k' : Nat} {e e' : Bool} {P : List Int} {L : Nat} {u u' : World} (h : Play g w n S k e P L u) (hf : FeedAt u' g P k' e') (ho : Only (· = g) u u') (hg : w.heap.size ≤ g) : Play g w (n + 1) S k' e' P L u' :=
  ⟨h.txt, h.len, by have := h.most; omega, hf, h.below.trans (ho.below h.below.size (fun _ e => by subst e; exact hg))⟩
theorem Play.push {g : Nat} {w : World} {n : Nat} {S : ByteArray} {k : Nat} {P m : List Int} {L : Nat} {u u' u2 : World} (h : Play g w n S k false P L u) (hm : m.length ≤ 20) (hf : FeedAt u' g (P ++ m) k false) (ho : Only (· = g) u u') (hb : Below u'.heap.size u' u2) (hg : w.heap.size ≤ g) :
    Play g w (n + 1) (S ++ strOfNums (chars m)) k false (P ++ m) (L + m.length) u2 :=
  ⟨by rw [h.txt, chars_append, str_append], by rw [List.length_append, h.len], by have := h.most; omega, hf.only (Only.of_below hb (fun _ => False)) id (fun _ _ _ => id),
    (h.below.trans (ho.below h.below.size (fun _ e => by subst e; exact hg))).trans (hb.mono (Nat.le_trans h.below.size ho.size))⟩
theorem bt_list (s : ByteArray) {j : Nat} {x : Int} (h : s.data.toList[j]? = some (UInt8.ofNat x.toNat)) (hx : 0 ≤ x ∧ x < 256) : j < s.size ∧ bt s (j : Int) = x := by
  have hj : j < s.size := (List.getElem?_eq_some_iff.1 h).1
  refine ⟨hj, ?_⟩
  have e : s[j] = UInt8.ofNat x.toNat := by
    have h2 : s.data.toList[j]? = some s[j] := by
      rw [List.getElem?_eq_getElem (show j < s.data.toList.length from hj)]
      rfl
    rw [h2] at h
    exact Option.some.inj h
  have h3 := bt_at s (j : Int) hj
  rw [← h3]
  show ((s[j]'hj).toNat : Int) = x
  rw [e, UInt8.toNat_ofNat']
  omega
theorem bt_cut {P : List Int} {a b i : Nat} (hb : b ≤ 8 * P.length) (hi : a + i < b) : bt ((strOfNums (chars P)).extract a b) (i : Int) = 48 + bitP P (a + i) := by
  have hx := bitP_b P (a + i)
  refine (bt_list _ ?_ (by omega)).2
  rw [Lib.extract_data, strOfNums_data, List.getElem?_take, if_pos (by omega), List.getElem?_drop, List.getElem?_map, chars_get P (by omega)]
  rfl
theorem size_cut {P : List Int} {a b : Nat} (hb : b ≤ 8 * P.length) : ((strOfNums (chars P)).extract a b).size = b - a := by
  rw [ByteArray.size_extract, strOfNums_size, chars_length]
  omega
theorem number_at {g : Nat} {w : World} {n : Nat} {S : ByteArray} {k : Nat} {e : Bool} {P : List Int} {L : Nat} {u : World} (h : Play g w n S k e P L u) (b : Nat) (hk : k ≤ b) (hb : b ≤ 8 * L) (h32 : b ≤ k + 32) (v : Int) (hv : pkN P k (b - k) = v) (w1 : World) :
    Calls Try.prog 13 #[.string (S.extract k b)] w1 fun x w' => x = .returned (.int .u32 v) ∧ ∃ m, w' = w1.drewN m := by
  have hl := h.len
  rw [h.txt, ← hv]
  refine (PFeedPlays.stevedoreref5_Number.calls 33 _ _ w1 (number_plain P k (b - k) (by omega) _ (size_cut (by omega)) (fun i hi => bt_cut (by omega) (by omega)))).mono ?_
  rintro x w' ⟨rfl, ⟨m, rfl⟩⟩
  exact ⟨rfl, m, rfl⟩
theorem bytes_at {g : Nat} {w : World} {n : Nat} {S : ByteArray} {k : Nat} {e : Bool} {P : List Int} {L : Nat} {u : World} (h : Play g w n S k e P L u) (q N : Nat) (hN : q + N ≤ L) (hL : L ≤ 100000) (w1 : World) :
    Calls Try.prog 16 #[.string (S.extract (8 * q) (8 * q + 8 * N))] w1 fun x w' => ∃ A c, x = .returned (.slice A N c) ∧ RdK .u8 w' A ((P.drop q).take N) ∧ Below w1.heap.size w1 w' := by
  have hl := h.len
  rw [h.txt]
  refine (bytes_any (P := P) (q := q) (N := N) (by rw [size_cut (by omega)]; omega) (by omega) (fun i hi => bt_cut (by omega) (by omega)) w1).mono ?_
  rintro x w' ⟨v, rfl, hO, hB⟩
  rw [outs_all h.feed.bytes (by omega)] at hO
  obtain ⟨A, c, rfl, hR⟩ := hO.rd
  have e : ((P.drop q).take N).length = N := by rw [List.length_take, List.length_drop]; omega
  exact ⟨A, c, by rw [e], hR, hB⟩
theorem bytes_at2 {g : Nat} {w : World} {n : Nat} {S : ByteArray} {k : Nat} {e : Bool} {P : List Int} {L : Nat} {u : World} (h : Play g w n S k e P L u) (q N a b : Nat) (ha : a = 8 * q) (hb : b = 8 * q + 8 * N) (hN : q + N ≤ L) (hL : L ≤ 100000) (w1 : World) :
    Calls Try.prog 16 #[.string (S.extract a b)] w1 fun x w' => ∃ A c, x = .returned (.slice A N c) ∧ RdK .u8 w' A ((P.drop q).take N) ∧ Below w1.heap.size w1 w' := by
  subst ha hb; exact bytes_at h q N hN hL w1
theorem str_n {w : World} {A : Option Addr} {l : List Int} {n : Nat} (c : Nat) (h : RdK .u8 w A l) (hn : l.length = n) : (convert 22 9 (.slice A n c)).run Try.prog w = .ok (.string (strOfNums l)) w := by
  subst hn; exact str_rd c h
theorem of_at {A : Option Addr} {l : List Int} {c : Nat} {w1 : World} (hR : RdK .u8 w1 A l) (hl : l.length ≤ 1000) (hc : l.length ≤ c) : Calls Try.prog 12 #[.slice A l.length c] w1 fun x w' => x = .returned (.string (strOfNums (chars l))) ∧ Below w1.heap.size w1 w' :=
  PFeedPlays.stevedoreref5_Of.calls (8 * l.length + 1) A c l _ w1 (RdK.kd hR (by omega)) hc (of_plain l hl)
end Go.Proofs.Ytplabbnmongbaaa.Walks
